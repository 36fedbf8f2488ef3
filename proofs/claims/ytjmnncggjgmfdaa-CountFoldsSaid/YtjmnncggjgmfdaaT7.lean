/- The walks of package stamp: rounds, checks. -/
import Derived.Test.YtjmnncggjgmfdaaT8
import Derived.Deep.RegionWith
namespace Go.Proofs.Ytjmnncggjgmfdaa
open Go.RowKit Ws
set_option linter.unusedVariables false
set_option linter.unusedSimpArgs false

theorem copyT (n : Nat) (hn : n ≤ 3) (w : World) (e d a b c : Int) :
    (Builtin.copy_ #[115, 115] 3 #[.slice (some ⟨w.heap.size + 1, 0, none⟩) n 3, .slice (some ⟨w.heap.size, 2, none⟩) 3 3]).run Try.prog
      ((w.alloc (.cells #[.int .u32 e, .int .i64 d, .int .u32 a, .int .u32 b, .int .u32 c] 50)).alloc (.cells #[.int .u32 0, .int .u32 0, .int .u32 0] 48)).drew =
    .ok (.int .i64 n) (((w.alloc (.cells #[.int .u32 e, .int .i64 d, .int .u32 a, .int .u32 b, .int .u32 c] 50)).alloc (.cells #[.int .u32 (if 0 < n then a else 0), .int .u32 (if 1 < n then b else 0), .int .u32 (if 2 < n then c else 0)] 48)).drew) := by
  have h : n = 0 ∨ n = 1 ∨ n = 2 ∨ n = 3 := by omega
  rcases h with rfl | rfl | rfl | rfl
  all_goals simp [Builtin.copy_, go_sem, Builtin.lenOf, Builtin.firstCells, loadCells, loadCellsFrom, storeCells]

theorem slT0 (a : Addr) (W : World) : (Instr.sliceAt 48 (.pointer (some a)) none (some (.int .i64 ((0 : Nat) : Int))) none).run Try.prog W = .ok (.slice (some a) 0 3) W := by kernel_rfl
theorem slT1 (a : Addr) (W : World) : (Instr.sliceAt 48 (.pointer (some a)) none (some (.int .i64 ((1 : Nat) : Int))) none).run Try.prog W = .ok (.slice (some a) 1 3) W := by kernel_rfl
theorem slT2 (a : Addr) (W : World) : (Instr.sliceAt 48 (.pointer (some a)) none (some (.int .i64 ((2 : Nat) : Int))) none).run Try.prog W = .ok (.slice (some a) 2 3) W := by kernel_rfl
theorem slT3 (a : Addr) (W : World) : (Instr.sliceAt 48 (.pointer (some a)) none (some (.int .i64 ((3 : Nat) : Int))) none).run Try.prog W = .ok (.slice (some a) 3 3) W := by kernel_rfl
theorem slT (n : Nat) (hn : n ≤ 3) (a : Addr) (W : World) : (Instr.sliceAt 48 (.pointer (some a)) none (some (.int .i64 (n : Int))) none).run Try.prog W = .ok (.slice (some a) n 3) W := by
  have h : n = 0 ∨ n = 1 ∨ n = 2 ∨ n = 3 := by omega
  rcases h with rfl | rfl | rfl | rfl
  · exact slT0 a W
  · exact slT1 a W
  · exact slT2 a W
  · exact slT3 a W
set_option maxHeartbeats 400000 in
theorem rounds_nat (n : Nat) (hn : n ≤ 3) (e a b c : Int) (w : World) : Calls Try.prog 71 #[.agg #[.int .u32 e, .int .i64 n, .int .u32 a, .int .u32 b, .int .u32 c]] w fun r w' =>
    r = .returned (.agg #[.int .u32 (if 0 < n then a else 0), .int .u32 (if 1 < n then b else 0), .int .u32 (if 2 < n then c else 0)]) ∧ Same w w' := by
  have hc := copyT n hn w e n a b c
  have hsl := slT n hn
  generalize (if 0 < n then a else 0) = x at hc ⊢
  generalize (if 1 < n then b else 0) = y at hc ⊢
  generalize (if 2 < n then c else 0) = z at hc ⊢
  go_enter Try.func71, Try.ntmps71
  go_wp2
  go_region
  go_wp2
  refine bodyPost_ret (v := .agg #[.int .u32 x, .int .u32 y, .int .u32 z]) (by simp [results, Try.results71, go_sem]) rfl ⟨rfl, ?_⟩
  exact (((Same.refl w).alloc _).alloc _).drewN 1
theorem rounds_any (t : Tm) (w : World) (h0 : 0 ≤ t.d) (h3 : t.d ≤ 3) : Calls Try.prog 71 #[vT t] w fun r w' => r = .returned (cutT t) ∧ Same w w' := by
  obtain ⟨e, d, a, b, c⟩ := t
  obtain ⟨n, rfl⟩ := Int.eq_ofNat_of_zero_le h0
  have := rounds_nat n (by simp only at h3; omega) e a b c w
  refine this.mono fun r w' ⟨h1, h2⟩ => ⟨?_, h2⟩
  rw [h1]
  unfold cutT
  simp only []
  have e1 : (0 < (n : Int)) ↔ 0 < n := by omega
  have e2 : (1 < (n : Int)) ↔ 1 < n := by omega
  have e3 : (2 < (n : Int)) ↔ 2 < n := by omega
  simp only [e1, e2, e3]

/-! ### Check -/
set_option maxHeartbeats 1000000 in
theorem check_any (t : Tm) (w : World) : Calls Try.prog 51 #[vT t] w fun r w' => r = .returned (.int .i64 t.check) ∧ Same w w' := by
  by_cases h1 : t.d < 0 ∨ 3 < t.d
  · have HE : Hid (Tm.check t = 10) := by unfold Hid Tm.check; rw [if_pos h1]
    have HC := Lib.hid (fun W => there_no t.d W h1)
    clear h1
    go_enter Try.func51, Try.ntmps51
    go_wp2_with fail
    refine (HC.out _).mono ?_
    rintro r w' ⟨rfl, rfl⟩
    go_wp2_with fail
    go_ret
    exact ⟨ret_v (by rw [HE.out]; rfl), (Same.refl _).alloc _⟩
  have h2 : 0 ≤ t.d := by omega
  have h3 : t.d ≤ 3 := by omega
  have HC := Lib.hid (fun W => there_yes t.d W h2 h3)
  have HR := Lib.hid (fun W => rounds_any t W h2 h3)
  obtain ⟨e, d, a, b, c⟩ := t
  simp only at h1 h2 h3
  obtain ⟨x, hx⟩ : ∃ x, x = if 0 < d then a else 0 := ⟨_, rfl⟩
  obtain ⟨y, hy⟩ : ∃ y, y = if 1 < d then b else 0 := ⟨_, rfl⟩
  obtain ⟨z, hz⟩ : ∃ z, z = if 2 < d then c else 0 := ⟨_, rfl⟩
  simp only [cutT, ← hx, ← hy, ← hz] at HR
  have HX := Lib.hid hx
  have HY := Lib.hid hy
  have HZ := Lib.hid hz
  clear hx hy hz
  have i0 := fun W => idx0 (.int .u32 a) (.int .u32 b) (.int .u32 c) W
  have i1 := fun W => idx1 (.int .u32 a) (.int .u32 b) (.int .u32 c) W
  have i2 := fun W => idx2 (.int .u32 a) (.int .u32 b) (.int .u32 c) W
  have H1 := Lib.hid h1
  clear h1
  go_enter Try.func51, Try.ntmps51
  go_wp2_with fail
  refine (HC.out _).mono ?_
  rintro r w' ⟨rfl, rfl⟩
  go_wp2_with fail
  refine wp_loop_rounds 4 ?_
  rw [rounds_succ]
  go_wp2_with fail
  iterate 3 (all_goals try (rw [rounds_succ]; go_wp2_with fail))
  all_goals first
    | (go_ret
       refine ⟨ret_int ?_, (Same.refl _).alloc _⟩
       go_light
       have h1 := H1.out
       simp only [Tm.check, MC]
       (repeat' split) <;> omega)
    | skip
  have hn := fun x y z x' y' z' W => neqArr x y z x' y' z' W
  obtain ⟨W0, hW0⟩ : ∃ W0, w.alloc (.cells #[.int .u32 e, .int .i64 d, .int .u32 a, .int .u32 b, .int .u32 c] 50) = W0 := ⟨_, rfl⟩
  have b0 : Bk W0 w.heap.size 50 #[.int .u32 e, .int .i64 d, .int .u32 a, .int .u32 b, .int .u32 c] := by rw [← hW0]; exact Bk.new _ _ _
  have s0 : Same w W0 := by rw [← hW0]; exact (Same.refl _).alloc _
  rw [hW0]
  clear hW0
  have c0 : W0.cell? ⟨w.heap.size, 0, none⟩ = some (.int .u32 e) := Bk.cell b0 0 _ rfl
  have c1 : W0.cell? ⟨w.heap.size, 1, none⟩ = some (.int .i64 d) := Bk.cell b0 1 _ rfl
  have c2 : W0.cell? ⟨w.heap.size, 2, none⟩ = some (.int .u32 a) := Bk.cell b0 2 _ rfl
  have c3 : W0.cell? ⟨w.heap.size, 3, none⟩ = some (.int .u32 b) := Bk.cell b0 3 _ rfl
  have c4 : W0.cell? ⟨w.heap.size, 4, none⟩ = some (.int .u32 c) := Bk.cell b0 4 _ rfl
  have S0 := Lib.hid s0
  clear s0 b0
  go_region_with (go_at_call 71; refine (HR.out _).mono ?_; rintro r w' ⟨rfl, hs⟩; have k2 : w'.cell? ⟨w.heap.size, 2, none⟩ = some (.int .u32 a) := Same.cell hs c2; have k3 : w'.cell? ⟨w.heap.size, 3, none⟩ = some (.int .u32 b) := Same.cell hs c3; have k4 : w'.cell? ⟨w.heap.size, 4, none⟩ = some (.int .u32 c) := Same.cell hs c4; have HS := Lib.hid hs; clear hs)
  all_goals go_wp2
  all_goals go_ret
  all_goals refine ⟨ret_int ?_, by first | exact S0.out.trans HS.out | exact (Same.drewN S0.out 1).trans HS.out | exact ((Same.drewN S0.out 1).trans HS.out).drewN _⟩
  all_goals
    go_light
    have hx := HX.out
    have hy := HY.out
    have hz := HZ.out
    clear HX HY HZ HR HC H1 S0 HS hn k2 k3 k4 c0 c1 c2 c3 c4
    clear i0 i1 i2
    have hd : d = 0 ∨ d = 1 ∨ d = 2 ∨ d = 3 := by omega
    clear h2 h3
    rcases hd with rfl | rfl | rfl | rfl
    all_goals
      simp at hx hy hz
      subst hx hy hz
      (try simp at *)
      all_goals (try simp only [Tm.check, MC])
      all_goals ((repeat' split) <;> omega)
end Go.Proofs.Ytjmnncggjgmfdaa
