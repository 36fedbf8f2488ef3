/- Counts in their form. -/
import Derived.Test.YtjmnncggjgmfdaaV3
namespace Go.Proofs.Ytjmnncggjgmfdaa
open Go.RowKit Ws
set_option linter.unusedVariables false
set_option linter.unusedSimpArgs false

set_option maxRecDepth 20000 in
set_option maxHeartbeats 1000000 in
theorem right_any (hsort : SortOk) (v : Value) (l : List Dl) (w : World) (hv : Rd w 7 encD v l) (ok : ∀ x ∈ l, x.Ok) (hlen : l.length ≤ 1000000) : Calls Try.prog 37 #[v] w fun r w' => r = .returned (.bool (right l)) ∧ Same w w' := by
  have HF := Lib.hid (fold_walk hsort v l w hv ok hlen)
  have HR := Lib.hid hv
  obtain ⟨A, c, rfl, hc⟩ := hv.len
  clear hv ok hsort
  obtain ⟨ys, k, hf⟩ : ∃ ys k, fold l = (ys, k) := ⟨_, _, rfl⟩
  have hfl : ys.length ≤ 256 := by have := fold_len l; rw [hf] at this; exact this
  have hr : right l = (decide (k = 0) && decide (ys = l)) := by unfold right; rw [hf]; simp
  rw [hr]
  by_cases hk : k = 0
  · have z1 : (k == 0) = true := by simp [hk]
    have HK := Lib.hid hk
    clear hr hk
    go_enter Try.func37, Try.ntmps37
    go_wp2_with fail
    refine HF.out.mono ?_
    rintro r W1 ⟨u, rfl, ho, hs⟩
    rw [hf] at ho ⊢
    have hE := Lib.hid (eqSl u (.slice A l.length c) ys l W1 ho.rd (HR.out.same hs) (by omega) hlen)
    have HS := Lib.hid hs
    clear hs ho
    go_wp2_with fail
    refine hE.out.mono ?_
    rintro r W2 ⟨rfl, q, rfl⟩
    go_wp2_with fail
    go_ret
    exact ⟨ret_v (by simp [HK.out]), HS.out.drewN q⟩
  · have z1 : (k == 0) = false := by simp [hk]
    have HK : Hid (k ≠ 0) := hk
    clear hr hk
    go_enter Try.func37, Try.ntmps37
    go_wp2_with fail
    refine HF.out.mono ?_
    rintro r W1 ⟨u, rfl, ho, hs⟩
    rw [hf] at ho ⊢
    have HS := Lib.hid hs
    clear hs ho
    go_wp2_with fail
    go_ret
    exact ⟨ret_v (by simp [HK.out]), HS.out⟩
end Go.Proofs.Ytjmnncggjgmfdaa
