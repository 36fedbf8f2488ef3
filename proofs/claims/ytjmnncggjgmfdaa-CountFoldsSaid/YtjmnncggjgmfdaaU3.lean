/- The walks of the order of times. -/
import Derived.Test.YtjmnncggjgmfdaaU2
import Derived.StillTailTactics
namespace Go.Proofs.Ytjmnncggjgmfdaa
open Go.RowKit Ws
set_option linter.unusedVariables false
set_option linter.unusedSimpArgs false

theorem quietL {P : Program} {f : FuncId} {args : Array Value} {w : World} {v : Value} (h : Calls P f args w fun e w' => e = .returned v ∧ w = w') :
    Calls P f args w fun e w' => e = .returned v ∧ w' = w := h.mono fun _ _ ⟨h1, h2⟩ => ⟨h1, h2.symm⟩

set_option maxRecDepth 20000 in
set_option maxHeartbeats 2000000 in
theorem tcmp_d (x y : Tm) (w : World) : Calls Try.prog 33 #[vT x, vT y] w fun r w' => r = .returned (.int .i64 (x.cmp y)) ∧ Same w w' ∧ w.drawn ≤ w'.drawn := by
  have HQ := Lib.hid (eqlT x y)
  by_cases hxy : x = y
  · have HE : Hid (x.cmp y = 0) := Tm.cmp_zero.2 hxy
    have he : ∀ W, (binOp .eql 50 (vT x) (vT y)).run Try.prog W = .ok (.bool true) W := fun W => by rw [HQ.out]; simp [hxy]
    clear hxy
    go_enter Try.func33, Try.ntmps33
    go_wp2
    go_ret
    exact ⟨ret_v (by rw [HE.out]; rfl), ((Same.refl _).alloc _).alloc _, Nat.le_refl _⟩
  · have he : ∀ W, (binOp .eql 50 (vT x) (vT y)).run Try.prog W = .ok (.bool false) W := fun W => by rw [HQ.out]; simp [hxy]
    have HE : Hid (x.cmp y = or0 (or0 (or0 (or0 (cmp3 x.d y.d) (cmp3 x.e y.e)) (cmp3 x.a y.a)) (cmp3 x.b y.b)) (cmp3 x.c y.c)) := by
      unfold Hid Tm.cmp or0; (repeat' split) <;> simp_all
    clear hxy
    have H1 := Lib.hid (fun W => quietL (cmp_int x.d y.d W))
    have H2 := Lib.hid (fun W => quietL (cmp_u32 x.e y.e W))
    generalize cmp3 x.d y.d = m1 at HE H1
    generalize cmp3 x.e y.e = m2 at HE H2
    go_enter Try.func33, Try.ntmps33
    go_wp2
    obtain ⟨W0, hW0⟩ : ∃ W0, ((w.alloc (.cells #[.int .u32 x.e, .int .i64 x.d, .int .u32 x.a, .int .u32 x.b, .int .u32 x.c] 50)).alloc (.cells #[.int .u32 y.e, .int .i64 y.d, .int .u32 y.a, .int .u32 y.b, .int .u32 y.c] 50)) = W0 := ⟨_, rfl⟩
    have b0 : Bk W0 w.heap.size 50 #[.int .u32 x.e, .int .i64 x.d, .int .u32 x.a, .int .u32 x.b, .int .u32 x.c] := by rw [← hW0]; exact (Bk.new _ _ _).alloc _
    have b1 : Bk W0 (w.heap.size + 1) 50 #[.int .u32 y.e, .int .i64 y.d, .int .u32 y.a, .int .u32 y.b, .int .u32 y.c] := by rw [← hW0]; have := Bk.new (w.alloc (.cells #[.int .u32 x.e, .int .i64 x.d, .int .u32 x.a, .int .u32 x.b, .int .u32 x.c] 50)) 50 #[.int .u32 y.e, .int .i64 y.d, .int .u32 y.a, .int .u32 y.b, .int .u32 y.c]; simpa using this
    have D0 : w.drawn = W0.drawn := by rw [← hW0]; rfl
    have s0 : Same w W0 := by rw [← hW0]; exact ((Same.refl _).alloc _).alloc _
    rw [hW0]
    clear hW0
    have B0 := Lib.hid b0
    have B1 := Lib.hid b1
    have S0 := Lib.hid s0
    refine wp_region_still_tail 10 (by kernel_rfl) (by kernel_rfl) ?_
    change wpStill _ _ W0.drew _ _ _
    obtain ⟨W1, hW1⟩ : ∃ W1, W0.drew = W1 := ⟨_, rfl⟩
    have b2 : Bk W1 w.heap.size 50 #[.int .u32 x.e, .int .i64 x.d, .int .u32 x.a, .int .u32 x.b, .int .u32 x.c] := by rw [← hW1]; exact b0.drew
    have b3 : Bk W1 (w.heap.size + 1) 50 #[.int .u32 y.e, .int .i64 y.d, .int .u32 y.a, .int .u32 y.b, .int .u32 y.c] := by rw [← hW1]; exact b1.drew
    have D1 : Hid (w.drawn ≤ W1.drawn) := by unfold Hid; rw [← hW1, D0]; exact Nat.le_succ _
    clear D0
    have s1 : Same w W1 := by rw [← hW1]; exact s0.drewN 1
    have c0 : W1.cell? ⟨w.heap.size, 0, none⟩ = some (.int .u32 x.e) := Bk.cell b2 0 _ rfl
    have c1 : W1.cell? ⟨w.heap.size, 1, none⟩ = some (.int .i64 x.d) := Bk.cell b2 1 _ rfl
    have d0 : W1.cell? ⟨w.heap.size + 1, 0, none⟩ = some (.int .u32 y.e) := Bk.cell b3 0 _ rfl
    have d1 : W1.cell? ⟨w.heap.size + 1, 1, none⟩ = some (.int .i64 y.d) := Bk.cell b3 1 _ rfl
    have B2 := Lib.hid b2
    have B3 := Lib.hid b3
    have S1 := Lib.hid s1
    clear b0 b1 s0 b2 b3 s1
    rw [hW1]
    simp only [List.take_succ_cons, List.take_zero, List.drop_succ_cons, List.drop_zero]
    iterate 4 still_step
    still_call (H1.out _)
    iterate 4 still_step
    still_call (H2.out _)
    refine wpStill_nil ?_
    have d2 : W1.cell? ⟨w.heap.size + 1, 2, none⟩ = some (.int .u32 y.a) := Bk.cell B3.out 2 _ rfl
    have d3 : W1.cell? ⟨w.heap.size + 1, 3, none⟩ = some (.int .u32 y.b) := Bk.cell B3.out 3 _ rfl
    have d4 : W1.cell? ⟨w.heap.size + 1, 4, none⟩ = some (.int .u32 y.c) := Bk.cell B3.out 4 _ rfl
    have e2 : W1.cell? ⟨w.heap.size, 2, none⟩ = some (.int .u32 x.a) := Bk.cell B2.out 2 _ rfl
    have e3 : W1.cell? ⟨w.heap.size, 3, none⟩ = some (.int .u32 x.b) := Bk.cell B2.out 3 _ rfl
    have e4 : W1.cell? ⟨w.heap.size, 4, none⟩ = some (.int .u32 x.c) := Bk.cell B2.out 4 _ rfl
    have hlt : w.heap.size + 1 < W1.heap.size := B3.out.lt
    have i0 := fun W => idx0 (.int .u32 x.a) (.int .u32 x.b) (.int .u32 x.c) W
    have i1 := fun W => idx1 (.int .u32 x.a) (.int .u32 x.b) (.int .u32 x.c) W
    have i2 := fun W => idx2 (.int .u32 x.a) (.int .u32 x.b) (.int .u32 x.c) W
    have H3 := Lib.hid (fun W => cmp_u32 x.a y.a W)
    have H4 := Lib.hid (fun W => cmp_u32 x.b y.b W)
    have H5 := Lib.hid (fun W => cmp_u32 x.c y.c W)
    generalize cmp3 x.a y.a = m3 at HE H3
    generalize cmp3 x.b y.b = m4 at HE H4
    generalize cmp3 x.c y.c = m5 at HE H5
    have g2 := cellA1 e2
    have g3 := cellA1 e3
    have g4 := cellA1 e4
    have k2 := cellA1 d2
    have k3 := cellA2 d3
    have k4 := cellA3 d4
    go_wp2_with fail
    refine (or2 W1.heap.size m1 m2 _ (Bk.new _ _ _)).mono ?_
    rintro r w' ⟨rfl, rfl⟩
    go_wp2_with fail
    refine wp_loop_rounds 4 ?_
    rw [rounds_succ]
    go_wp2_with fail
    refine (H3.out _).mono ?_
    rintro r w' ⟨rfl, rfl⟩
    go_wp2_with fail
    refine (or2 (W1.heap.size + 1) (or0 m1 m2) m3 _ (by have := Bk.new (W1.alloc (.cells #[.int .i64 m1, .int .i64 m2] 3)) 3 #[.int .i64 (or0 m1 m2), .int .i64 m3]; simpa using this)).mono ?_
    rintro r w' ⟨rfl, rfl⟩
    go_wp2_with fail
    rw [rounds_succ]
    go_wp2_with fail
    refine (H4.out _).mono ?_
    rintro r w' ⟨rfl, rfl⟩
    go_wp2_with fail
    refine (or2 (W1.heap.size + 1 + 1) (or0 (or0 m1 m2) m3) m4 _ (by have := Bk.new ((W1.alloc (.cells #[.int .i64 m1, .int .i64 m2] 3)).alloc (.cells #[.int .i64 (or0 m1 m2), .int .i64 m3] 3)) 3 #[.int .i64 (or0 (or0 m1 m2) m3), .int .i64 m4]; simpa using this)).mono ?_
    rintro r w' ⟨rfl, rfl⟩
    go_wp2_with fail
    rw [rounds_succ]
    go_wp2_with fail
    refine (H5.out _).mono ?_
    rintro r w' ⟨rfl, rfl⟩
    go_wp2_with fail
    refine (or2 (W1.heap.size + 1 + 1 + 1) (or0 (or0 (or0 m1 m2) m3) m4) m5 _ (by have := Bk.new (((W1.alloc (.cells #[.int .i64 m1, .int .i64 m2] 3)).alloc (.cells #[.int .i64 (or0 m1 m2), .int .i64 m3] 3)).alloc (.cells #[.int .i64 (or0 (or0 m1 m2) m3), .int .i64 m4] 3)) 3 #[.int .i64 (or0 (or0 (or0 m1 m2) m3) m4), .int .i64 m5]; simpa using this)).mono ?_
    rintro r w' ⟨rfl, rfl⟩
    go_wp2_with fail
    rw [rounds_succ]
    go_wp2_with fail
    go_ret
    exact ⟨ret_v (by rw [HE.out]; rfl), (((S1.out.alloc _).alloc _).alloc _).alloc _, D1.out⟩
theorem tcmp_any (x y : Tm) (w : World) : Calls Try.prog 33 #[vT x, vT y] w fun r w' => r = .returned (.int .i64 (x.cmp y)) ∧ Same w w' := (tcmp_d x y w).mono fun _ _ h => ⟨h.1, h.2.1⟩
end Go.Proofs.Ytjmnncggjgmfdaa
