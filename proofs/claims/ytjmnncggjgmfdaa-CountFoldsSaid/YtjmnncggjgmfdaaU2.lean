/- The walks of package cmp, and of small tests. -/
import Derived.Test.YtjmnncggjgmfdaaU1
import Derived.Test.YtjmnncggjgmfdaaWp3
namespace Go.Proofs.Ytjmnncggjgmfdaa
open Go.RowKit Ws
set_option linter.unusedVariables false
set_option linter.unusedSimpArgs false

theorem nan_int (x : Int) (w : World) : Calls Try.prog 64 #[.int .i64 x] w fun r w' => r = .returned (.bool false) ∧ w = w' := by
  go_enter Try.func64, Try.ntmps64
  go_wp2
  go_ret
  exact ⟨ret_v (by simp), rfl⟩
theorem cmp_int (x y : Int) (w : World) : Calls Try.prog 32 #[.int .i64 x, .int .i64 y] w fun r w' => r = .returned (.int .i64 (cmp3 x y)) ∧ w = w' := by
  have HX := Lib.hid (fun W => nan_int x W)
  have HY := Lib.hid (fun W => nan_int y W)
  have hc : (x < y ∧ Hid (cmp3 x y = -1)) ∨ (y < x ∧ Hid (cmp3 x y = 1)) ∨ (x = y ∧ Hid (cmp3 x y = 0)) := by
    unfold Hid cmp3
    rcases Int.lt_trichotomy x y with h | h | h
    · exact .inl ⟨h, if_pos h⟩
    · exact .inr (.inr ⟨h, by rw [if_neg (by omega), if_neg (by omega)]⟩)
    · exact .inr (.inl ⟨h, by rw [if_neg (by omega), if_pos h]⟩)
  rcases hc with ⟨h, HE⟩ | ⟨h, HE⟩ | ⟨h, HE⟩
  case' inr.inr => subst h
  all_goals
    go_enter Try.func32, Try.ntmps32
    go_wp2_with fail
    refine (HX.out _).mono ?_
    rintro r w' ⟨rfl, rfl⟩
    go_wp2_with fail
    refine (HY.out _).mono ?_
    rintro r w' ⟨rfl, rfl⟩
    go_wp2_with fail
    go_ret
    exact ⟨ret_v (by rw [HE.out]; rfl), rfl⟩

theorem nan_u32 (x : Int) (w : World) : Calls Try.prog 84 #[.int .u32 x] w fun r w' => r = .returned (.bool false) ∧ w = w' := by
  go_enter Try.func84, Try.ntmps84
  go_wp2
  go_ret
  exact ⟨ret_v (by simp), rfl⟩
theorem cmp_u32 (x y : Int) (w : World) : Calls Try.prog 65 #[.int .u32 x, .int .u32 y] w fun r w' => r = .returned (.int .i64 (cmp3 x y)) ∧ w = w' := by
  have HX := Lib.hid (fun W => nan_u32 x W)
  have HY := Lib.hid (fun W => nan_u32 y W)
  have hc : (x < y ∧ Hid (cmp3 x y = -1)) ∨ (y < x ∧ Hid (cmp3 x y = 1)) ∨ (x = y ∧ Hid (cmp3 x y = 0)) := by
    unfold Hid cmp3
    rcases Int.lt_trichotomy x y with h | h | h
    · exact .inl ⟨h, if_pos h⟩
    · exact .inr (.inr ⟨h, by rw [if_neg (by omega), if_neg (by omega)]⟩)
    · exact .inr (.inl ⟨h, by rw [if_neg (by omega), if_pos h]⟩)
  rcases hc with ⟨h, HE⟩ | ⟨h, HE⟩ | ⟨h, HE⟩
  case' inr.inr => subst h
  all_goals
    go_enter Try.func65, Try.ntmps65
    go_wp2_with fail
    refine (HX.out _).mono ?_
    rintro r w' ⟨rfl, rfl⟩
    go_wp2_with fail
    refine (HY.out _).mono ?_
    rintro r w' ⟨rfl, rfl⟩
    go_wp2_with fail
    go_ret
    exact ⟨ret_v (by rw [HE.out]; rfl), rfl⟩

/-- The first of two numbers that is not nought. -/
theorem or2 (g : Nat) (x y : Int) (w : World) (h : Bk w g 3 #[.int .i64 x, .int .i64 y]) :
    Calls Try.prog 31 #[.slice (some ⟨g, 0, none⟩) 2 2] w fun r w' => r = .returned (.int .i64 (or0 x y)) ∧ w = w' := by
  have c0 : w.cell? ⟨g, 0, none⟩ = some (.int .i64 x) := Bk.cell h 0 _ rfl
  have c1 : w.cell? ⟨g, 1, none⟩ = some (.int .i64 y) := Bk.cell h 1 _ rfl
  clear h
  by_cases hx : x = 0
  · have HE : Hid (or0 x y = y) := by unfold Hid or0; rw [if_pos hx]
    subst hx
    by_cases hy : y = 0
    · subst hy
      go_enter Try.func31, Try.ntmps31
      go_wp2
      refine wp_loop_rounds 3 ?_
      rw [rounds_succ]
      go_wp2
      rw [rounds_succ]
      go_wp2
      rw [rounds_succ]
      go_wp2
      go_ret
      exact ⟨ret_v (by rw [HE.out]; rfl), rfl⟩
    · have hy1 : (y == 0) = false := by simp [hy]
      have hy2 : (y != 0) = true := by simp [hy]
      clear hy
      go_enter Try.func31, Try.ntmps31
      go_wp2
      refine wp_loop_rounds 3 ?_
      rw [rounds_succ]
      go_wp2
      rw [rounds_succ]
      go_wp2
      go_ret
      exact ⟨ret_v (by rw [HE.out]; rfl), rfl⟩
  · have HE : Hid (or0 x y = x) := by unfold Hid or0; rw [if_neg hx]
    have hx1 : (x == 0) = false := by simp [hx]
    have hx2 : (x != 0) = true := by simp [hx]
    clear hx
    go_enter Try.func31, Try.ntmps31
    go_wp2
    refine wp_loop_rounds 3 ?_
    rw [rounds_succ]
    go_wp2
    go_ret
    exact ⟨ret_v (by rw [HE.out]; rfl), rfl⟩

theorem order04 (x y : Int) (w : World) : Calls Try.prog 85 #[.int .u32 x, .int .u32 y] w fun r w' => r = .returned (.int .i64 (cmp3 x y)) ∧ w = w' := by
  have hc : (x < y ∧ Hid (cmp3 x y = -1)) ∨ (y < x ∧ Hid (cmp3 x y = 1)) ∨ (x = y ∧ Hid (cmp3 x y = 0)) := by
    unfold Hid cmp3
    rcases Int.lt_trichotomy x y with h | h | h
    · exact .inl ⟨h, if_pos h⟩
    · exact .inr (.inr ⟨h, by rw [if_neg (by omega), if_neg (by omega)]⟩)
    · exact .inr (.inl ⟨h, by rw [if_neg (by omega), if_pos h]⟩)
  rcases hc with ⟨h, HE⟩ | ⟨h, HE⟩ | ⟨h, HE⟩
  case' inr.inr => subst h
  all_goals
    go_enter Try.func85, Try.ntmps85
    go_wp2
    go_ret
    exact ⟨ret_v (by rw [HE.out]; rfl), rfl⟩

theorem within_any (n : Int) (w : World) : Calls Try.prog 28 #[.int .i64 n] w fun r w' => r = .returned (.bool (decide (okN n))) ∧ w = w' := by
  have hc : (n < -1099511627776 ∧ Hid (decide (okN n) = false)) ∨ (-1099511627776 ≤ n ∧ n ≤ 1099511627776 ∧ Hid (decide (okN n) = true)) ∨ (-1099511627776 ≤ n ∧ 1099511627776 < n ∧ Hid (decide (okN n) = false)) := by
    unfold Hid
    simp only [decide_eq_true_eq, decide_eq_false_iff_not]
    unfold okN
    omega
  rcases hc with ⟨h, HE⟩ | ⟨h, h1, HE⟩ | ⟨h, h1, HE⟩
  all_goals
    go_enter Try.func28, Try.ntmps28
    go_wp2
    all_goals first
      | (exfalso; omega)
      | (go_ret; exact ⟨by rw [HE.out]; exact ret_bool (by simp; try omega), rfl⟩)

theorem within21 (n : Int) (w : World) : Calls Try.prog 35 #[.int .i64 n] w fun r w' => r = .returned (.bool (decide (okN n))) ∧ w = w' := by
  have hc : (n < -1099511627776 ∧ Hid (decide (okN n) = false)) ∨ (-1099511627776 ≤ n ∧ n ≤ 1099511627776 ∧ Hid (decide (okN n) = true)) ∨ (-1099511627776 ≤ n ∧ 1099511627776 < n ∧ Hid (decide (okN n) = false)) := by
    unfold Hid
    simp only [decide_eq_true_eq, decide_eq_false_iff_not]
    unfold okN
    omega
  rcases hc with ⟨h, HE⟩ | ⟨h, h1, HE⟩ | ⟨h, h1, HE⟩
  all_goals
    go_enter Try.func35, Try.ntmps35
    go_wp2
    all_goals first
      | (exfalso; omega)
      | (go_ret; exact ⟨by rw [HE.out]; exact ret_bool (by simp; try omega), rfl⟩)
end Go.Proofs.Ytjmnncggjgmfdaa
