/- The walk of the order that count.Fold sorts by. -/
import Derived.Test.YtjmnncggjgmfdaaV1
namespace Go.Proofs.Ytjmnncggjgmfdaa
open Go.RowKit Ws
set_option linter.unusedVariables false
set_option linter.unusedSimpArgs false

set_option maxRecDepth 20000 in
set_option maxHeartbeats 2000000 in
theorem dcmp (x y : Dl) (w : World) : Calls Try.prog 30 #[vD x, vD y] w fun r w' => r = .returned (.int .i64 (x.cmp y)) ∧ Same w w' ∧ w.drawn ≤ w'.drawn := by
  have HC := Lib.hid (fun W => tcmp_d x.t y.t W)
  have H1 := Lib.hid (fun W => quietL (cmp_int x.l y.l W))
  have HE : Hid (x.cmp y = or0 (cmp3 x.l y.l) (x.t.cmp y.t)) := rfl
  generalize x.cmp y = res at HE ⊢
  generalize x.t.cmp y.t = m2 at HE HC
  generalize cmp3 x.l y.l = m1 at HE H1
  obtain ⟨l, ⟨e, d, a, b, c⟩, n⟩ := x
  obtain ⟨l', ⟨e', d', a', b', c'⟩, n'⟩ := y
  simp only at HC H1
  go_enter Try.func30, Try.ntmps30
  go_wp2
  obtain ⟨W0, hW0⟩ : ∃ W0, ((w.alloc (.cells #[.int .i64 l, .int .u32 e, .int .i64 d, .int .u32 a, .int .u32 b, .int .u32 c, .int .i64 n] 69)).alloc (.cells #[.int .i64 l', .int .u32 e', .int .i64 d', .int .u32 a', .int .u32 b', .int .u32 c', .int .i64 n'] 69)) = W0 := ⟨_, rfl⟩
  have b0 : Bk W0 w.heap.size 69 #[.int .i64 l, .int .u32 e, .int .i64 d, .int .u32 a, .int .u32 b, .int .u32 c, .int .i64 n] := by rw [← hW0]; exact (Bk.new _ _ _).alloc _
  have b1 : Bk W0 (w.heap.size + 1) 69 #[.int .i64 l', .int .u32 e', .int .i64 d', .int .u32 a', .int .u32 b', .int .u32 c', .int .i64 n'] := by rw [← hW0]; have := Bk.new (w.alloc (.cells #[.int .i64 l, .int .u32 e, .int .i64 d, .int .u32 a, .int .u32 b, .int .u32 c, .int .i64 n] 69)) 69 #[.int .i64 l', .int .u32 e', .int .i64 d', .int .u32 a', .int .u32 b', .int .u32 c', .int .i64 n']; simpa using this
  have s0 : Same w W0 := by rw [← hW0]; exact ((Same.refl _).alloc _).alloc _
  have D0 : w.drawn = W0.drawn := by rw [← hW0]; rfl
  rw [hW0]
  clear hW0
  refine wp_region_still_tail 9 (by kernel_rfl) (by kernel_rfl) ?_
  change wpStill _ _ W0.drew _ _ _
  obtain ⟨W1, hW1⟩ : ∃ W1, W0.drew = W1 := ⟨_, rfl⟩
  have b2 : Bk W1 w.heap.size 69 #[.int .i64 l, .int .u32 e, .int .i64 d, .int .u32 a, .int .u32 b, .int .u32 c, .int .i64 n] := by rw [← hW1]; exact b0.drew
  have b3 : Bk W1 (w.heap.size + 1) 69 #[.int .i64 l', .int .u32 e', .int .i64 d', .int .u32 a', .int .u32 b', .int .u32 c', .int .i64 n'] := by rw [← hW1]; exact b1.drew
  have s1 : Same w W1 := by rw [← hW1]; exact s0.drewN 1
  have D1 : Hid (w.drawn ≤ W1.drawn) := by unfold Hid; rw [← hW1, D0]; exact Nat.le_succ _
  have c0 : W1.cell? ⟨w.heap.size, 0, none⟩ = some (.int .i64 l) := Bk.cell b2 0 _ rfl
  have c1 : W1.cell? ⟨w.heap.size, 1, none⟩ = some (.int .u32 e) := Bk.cell b2 1 _ rfl
  have c2 : W1.cell? ⟨w.heap.size, 2, none⟩ = some (.int .i64 d) := Bk.cell b2 2 _ rfl
  have c3 : W1.cell? ⟨w.heap.size, 3, none⟩ = some (.int .u32 a) := Bk.cell b2 3 _ rfl
  have c4 : W1.cell? ⟨w.heap.size, 4, none⟩ = some (.int .u32 b) := Bk.cell b2 4 _ rfl
  have c5 : W1.cell? ⟨w.heap.size, 5, none⟩ = some (.int .u32 c) := Bk.cell b2 5 _ rfl
  have d0 : W1.cell? ⟨w.heap.size + 1, 0, none⟩ = some (.int .i64 l') := Bk.cell b3 0 _ rfl
  have d1 : W1.cell? ⟨w.heap.size + 1, 1, none⟩ = some (.int .u32 e') := Bk.cell b3 1 _ rfl
  have d2 : W1.cell? ⟨w.heap.size + 1, 2, none⟩ = some (.int .i64 d') := Bk.cell b3 2 _ rfl
  have d3 : W1.cell? ⟨w.heap.size + 1, 3, none⟩ = some (.int .u32 a') := Bk.cell b3 3 _ rfl
  have d4 : W1.cell? ⟨w.heap.size + 1, 4, none⟩ = some (.int .u32 b') := Bk.cell b3 4 _ rfl
  have d5 : W1.cell? ⟨w.heap.size + 1, 5, none⟩ = some (.int .u32 c') := Bk.cell b3 5 _ rfl
  have B2 := Lib.hid b2
  have B3 := Lib.hid b3
  have S1 := Lib.hid s1
  have lt1 : w.heap.size + 1 < W1.heap.size := Bk.lt b3
  clear b0 b1 s0 b2 b3 s1 D0
  rw [hW1]
  simp only [List.take_succ_cons, List.take_zero, List.drop_succ_cons, List.drop_zero]
  iterate 4 still_step
  still_call (H1.out _)
  iterate 4 still_step
  refine wpStill_nil ?_
  go_wp2_with fail
  refine (HC.out _).mono ?_
  rintro r W2 ⟨rfl, hs, hd⟩
  have HS := Lib.hid hs
  have HD := Lib.hid hd
  have lt2 : w.heap.size + 1 < W2.heap.size := Nat.lt_of_lt_of_le lt1 hs.size
  clear hs hd
  go_wp2_with fail
  refine (or2 W2.heap.size m1 m2 _ (Bk.new _ _ _)).mono ?_
  rintro r w' ⟨rfl, rfl⟩
  have l2 : w.heap.size ≤ W2.heap.size := by omega
  go_wp2_with fail
  go_ret
  exact ⟨ret_v (by rw [HE.out]; rfl), (S1.out.trans HS.out).alloc _, Nat.le_trans D1.out HD.out⟩
end Go.Proofs.Ytjmnncggjgmfdaa
