/- The walks of the small functions of counts. -/
import Derived.Test.YtjmnncggjgmfdaaU9
import Derived.Sort.Grow
namespace Go.Proofs.Ytjmnncggjgmfdaa
open Go.RowKit Ws
set_option linter.unusedVariables false
set_option linter.unusedSimpArgs false

theorem grw_of {w w' : World} (h : Same w w') (k : w.drawn ≤ w'.drawn) : ∃ q os', w' = Go.Sort.grow (w.drewN q) os' := by
  refine ⟨w'.drawn - w.drawn, w'.heap.extract w.heap.size w'.heap.size, ?_⟩
  have hh : w'.heap = w.heap ++ w'.heap.extract w.heap.size w'.heap.size := by
    apply Array.ext_getElem?
    intro i
    rcases Nat.lt_or_ge i w.heap.size with hi | hi
    · rw [h.block i hi, Array.getElem?_append_left hi]
    · rw [Array.getElem?_append_right hi, Array.getElem?_extract]
      simp only [Nat.min_self]
      rcases Nat.lt_or_ge i w'.heap.size with hj | hj
      · rw [if_pos (by omega)]
        congr 1
        omega
      · rw [if_neg (by omega), Array.getElem?_eq_none hj]
  obtain ⟨h1, t1, d1, o1, u1⟩ := w
  obtain ⟨h2, t2, d2, o2, u2⟩ := w'
  have e1 := h.os
  have e2 := h.tape
  have e3 := h.output
  simp only [World.drewN, Go.Sort.grow] at *
  subst e1 e2 e3
  congr 1
  omega

set_option maxRecDepth 20000 in
set_option maxHeartbeats 2000000 in
theorem dcheck (x : Dl) (w : World) : Calls Try.prog 27 #[vD x] w fun r w' => r = .returned (.int .i64 x.check) ∧ Same w w' := by
  have HC := Lib.hid (fun W => check_any x.t W)
  have HN := Lib.hid (fun W => within_any x.n W)
  have hc : (x.l < 0 ∧ x.check = 1) ∨ (¬ x.l < 0 ∧ 1000 < x.l ∧ x.check = 1) ∨ (¬ x.l < 0 ∧ ¬ 1000 < x.l ∧ ((x.t.check ≠ 0 ∧ x.check = x.t.check) ∨ (x.t.check = 0 ∧ ((okN x.n ∧ x.check = 0) ∨ (¬ okN x.n ∧ x.check = 9))))) := by
    unfold Dl.check
    by_cases h1 : x.l < 0
    · simp [h1]
    · by_cases h2 : 1000 < x.l
      · simp [h1, h2]
      · by_cases h3 : x.t.check = 0
        · by_cases h4 : okN x.n <;> simp [h1, h2, h3, h4]
        · simp [h1, h2, h3]
  generalize x.check = res at hc ⊢
  generalize x.t.check = k at hc HC
  have ho : okN x.n ∨ ¬ okN x.n := Decidable.em _
  obtain ⟨l, ⟨e, d, a, b, c⟩, n⟩ := x
  simp only at hc HC HN ho
  rcases hc with ⟨h1, rfl⟩ | ⟨h1, h2, rfl⟩ | ⟨h1, h2, hc⟩
  · go_enter Try.func27, Try.ntmps27
    go_wp2_with fail
    go_ret
    exact ⟨rfl, (Same.refl _).alloc _⟩
  · go_enter Try.func27, Try.ntmps27
    go_wp2_with fail
    go_ret
    exact ⟨rfl, (Same.refl _).alloc _⟩
  · rcases hc with ⟨h3, rfl⟩ | ⟨rfl, hc⟩
    · have h4 : (res == 0) = false := by simp [h3]
      have h5 : (res != 0) = true := by simp [h3]
      clear h3
      go_enter Try.func27, Try.ntmps27
      go_wp2_with fail
      refine (HC.out _).mono ?_
      rintro r w' ⟨rfl, hs⟩
      have HS := Lib.hid hs
      clear hs
      go_wp2_with fail
      go_ret
      exact ⟨rfl, Same.trans ((Same.refl _).alloc _) HS.out⟩
    · have hb : ∃ bb, decide (okN n) = bb ∧ res = if bb then 0 else 9 := by
        rcases hc with ⟨h, rfl⟩ | ⟨h, rfl⟩
        · exact ⟨true, by simp [h], rfl⟩
        · exact ⟨false, by simp [h], rfl⟩
      obtain ⟨bb, hbb, rfl⟩ := hb
      rw [hbb] at HN
      clear hc ho hbb
      cases bb
      all_goals
        go_enter Try.func27, Try.ntmps27
        go_wp2_with fail
        have b0 := Bk.new w 69 #[.int .i64 l, .int .u32 e, .int .i64 d, .int .u32 a, .int .u32 b, .int .u32 c, .int .i64 n]
        refine (HC.out _).mono ?_
        rintro r w1 ⟨rfl, hs⟩
        have c6 : w1.cell? ⟨w.heap.size, 6, none⟩ = some (.int .i64 n) := Bk.cell (b0.same hs) 6 _ rfl
        have HS := Lib.hid hs
        clear hs b0
        go_wp2_with fail
        refine (HN.out _).mono ?_
        rintro r w2 ⟨rfl, rfl⟩
        go_wp2_with fail
        go_ret
        exact ⟨rfl, Same.trans ((Same.refl _).alloc _) HS.out⟩

set_option maxRecDepth 20000 in
set_option maxHeartbeats 2000000 in
theorem dorder (x y : Dl) (w : World) : Calls Try.prog 36 #[vD x, vD y] w fun r w' => r = .returned (.int .i64 (x.cmp y)) ∧ Same w w' := by
  have HC := Lib.hid (fun W => tcmp04 x.t y.t W)
  have hc : (x.l < y.l ∧ x.cmp y = -1) ∨ (y.l < x.l ∧ x.cmp y = 1) ∨ (x.l = y.l ∧ x.cmp y = x.t.cmp y.t) := by
    unfold Dl.cmp or0 cmp3
    rcases Int.lt_trichotomy x.l y.l with h | h | h
    · left; simp [h]
    · right; right; simp [h]
    · right; left
      have : ¬ x.l < y.l := by omega
      have h' : ¬ x.l = y.l := by omega
      simp [h, this, h']
  generalize x.cmp y = res at hc ⊢
  generalize x.t.cmp y.t = k at hc HC
  obtain ⟨l, ⟨e, d, a, b, c⟩, n⟩ := x
  obtain ⟨l', ⟨e', d', a', b', c'⟩, n'⟩ := y
  simp only at hc HC
  rcases hc with ⟨h1, rfl⟩ | ⟨h1, rfl⟩ | ⟨rfl, rfl⟩
  · go_enter Try.func36, Try.ntmps36
    go_wp2_with fail
    go_ret
    exact ⟨rfl, ((Same.refl _).alloc _).alloc _⟩
  · go_enter Try.func36, Try.ntmps36
    go_wp2_with fail
    go_ret
    exact ⟨rfl, ((Same.refl _).alloc _).alloc _⟩
  · go_enter Try.func36, Try.ntmps36
    go_wp2_with fail
    refine (HC.out _).mono ?_
    rintro r w' ⟨rfl, hs⟩
    have HS := Lib.hid hs
    clear hs
    go_wp2_with fail
    go_ret
    exact ⟨rfl, Same.trans (((Same.refl _).alloc _).alloc _) HS.out⟩
end Go.Proofs.Ytjmnncggjgmfdaa
