/- The walks of package stamp: checks. -/
import Derived.Test.YtjmnncggjgmfdaaT5
import Derived.LoopN
namespace Go.Proofs.Ytjmnncggjgmfdaa
open Go.RowKit Ws
set_option linter.unusedVariables false
set_option linter.unusedSimpArgs false

/-- A time's cells; a time's value. -/
abbrev encT (t : Tm) : List Value := [.int .u32 t.e, .int .i64 t.d, .int .u32 t.a, .int .u32 t.b, .int .u32 t.c]
abbrev vT (t : Tm) : Value := .agg #[.int .u32 t.e, .int .i64 t.d, .int .u32 t.a, .int .u32 t.b, .int .u32 t.c]

theorem idx0 (x y z : Value) (w : World) : (Instr.index 48 (.agg #[x, y, z]) (.int .i64 0)).run Try.prog w = .ok x w := by kernel_rfl
theorem idx1 (x y z : Value) (w : World) : (Instr.index 48 (.agg #[x, y, z]) (.int .i64 1)).run Try.prog w = .ok y w := by kernel_rfl
theorem idx2 (x y z : Value) (w : World) : (Instr.index 48 (.agg #[x, y, z]) (.int .i64 2)).run Try.prog w = .ok z w := by kernel_rfl

/-- Is there such a depth? -/
def thereB (d : Int) : Bool := decide (0 ≤ d ∧ d ≤ 3)
theorem there_yes (d : Int) (w : World) (h0 : 0 ≤ d) (h1 : d ≤ 3) : Calls Try.prog 70 #[.int .i64 d] w fun r w' => r = .returned (.bool true) ∧ w = w' := by
  go_enter Try.func70, Try.ntmps70
  go_wp2
  go_ret
  exact ⟨ret_v (by simp [h1]), rfl⟩
theorem there_no (d : Int) (w : World) (h : d < 0 ∨ 3 < d) : Calls Try.prog 70 #[.int .i64 d] w fun r w' => r = .returned (.bool false) ∧ w = w' := by
  rcases h with h | h
  · go_enter Try.func70, Try.ntmps70
    go_wp2
    go_ret
    exact ⟨ret_v (by simp), rfl⟩
  · have h0 : 0 ≤ d := by omega
    go_enter Try.func70, Try.ntmps70
    go_wp2
    go_ret
    exact ⟨ret_v (by simp; omega), rfl⟩

/-- A time's rounds within its depth. -/
def cutT (t : Tm) : Value := .agg #[.int .u32 (if 0 < t.d then t.a else 0), .int .u32 (if 1 < t.d then t.b else 0), .int .u32 (if 2 < t.d then t.c else 0)]

set_option maxHeartbeats 1000000 in
theorem check34 (t : Tm) (w : World) : Calls Try.prog 34 #[vT t] w fun r w' => r = .returned (.int .i64 t.check) ∧ Same w w' := by
  obtain ⟨e, d, a, b, c⟩ := t
  by_cases h1 : d < 0 ∨ 3 < d
  · have HE : Hid (Tm.check ⟨e, d, a, b, c⟩ = 10) := by unfold Hid Tm.check; rw [if_pos h1]
    have h3 : d < 0 ∨ (0 ≤ d ∧ 3 < d) := by omega
    clear h1
    rcases h3 with h3 | ⟨h3, h4⟩
    all_goals
      go_enter Try.func34, Try.ntmps34
      go_wp2
      go_ret
      exact ⟨ret_v (by rw [HE.out]; rfl), (Same.refl _).alloc _⟩
  have h1' : 0 ≤ d := by omega
  have h1'' : d ≤ 3 := by omega
  clear h1
  have hd : d = 0 ∨ d = 1 ∨ d = 2 ∨ d = 3 := by omega
  clear h1' h1''
  rcases hd with rfl | rfl | rfl | rfl
  all_goals
    go_enter Try.func34, Try.ntmps34
    go_wp2
    all_goals try (refine wp_loop_rounds 4 ?_; rw [rounds_succ]; go_wp2)
    iterate 3 (all_goals try (rw [rounds_succ]; go_wp2))
    all_goals try (refine wp_loop_rounds 4 ?_; rw [rounds_succ]; go_wp2)
    iterate 3 (all_goals try (rw [rounds_succ]; go_wp2))
    all_goals go_ret
    all_goals refine ⟨ret_int ?_, (Same.refl _).alloc _⟩
    all_goals go_light
    all_goals (try simp at *)
    all_goals simp only [Tm.check, MC]
    all_goals first
      | rfl
      | (repeat' split) <;> omega
end Go.Proofs.Ytjmnncggjgmfdaa
