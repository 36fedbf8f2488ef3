/- The walks of the reference's writers of numbers; of package cmp. -/
import Derived.Test.YtjmnncggjgmfdaaT7
namespace Go.Proofs.Ytjmnncggjgmfdaa
open Go.RowKit Ws
set_option linter.unusedVariables false
set_option linter.unusedSimpArgs false

theorem byte_hi2 (V : Nat) : encB (UInt8.ofNat (V % 128 + 128)) = [.int .u8 ((V : Int) % 128 + 128)] := by
  simp only [encB]; congr 2; simp; omega

set_option maxRecDepth 10000 in
set_option maxHeartbeats 400000 in
theorem fNumW (v : Nat) (w : World) (hv : v < 2 ^ 64) :
    Calls Try.prog 41 #[.int .u64 v] w fun r w' => r = .returned (.string (ofL (numB v))) ∧ Same w w' := by
  have HV := Lib.hid hv
  clear hv
  go_enter Try.func41, Try.ntmps41
  go_wp2
  go_loopw [0, 3] (fun x r wr => ∃ (V : Nat) (l : List UInt8), x = .int .u64 V ∧ Hid (V < 2 ^ 64) ∧ Hid (numB v = l ++ numB V) ∧ Hid (Own wr w.heap.size 5 1 encB r l) ∧ Hid (Same w wr)) (fun x _ _ => (intOf x).toNat)
  case atStart => exact ⟨v, [], rfl, HV.out, rfl, Own.nil _ _ _ _ _, Same.refl _⟩
  case round =>
    obtain ⟨V, l, rfl, HV2, HN, HO, HS⟩ := hrel
    have hlen : l.length ≤ 9 := by
      have h1 := numB_len v 10 (Nat.lt_of_lt_of_le HV.out (by decide)) (by omega)
      have h2 := numB_pos V
      rw [HN.out, List.length_append] at h1
      omega
    have hrow : ∀ (v1 : Value) (w1 : World) (u : Value) (o : Obj), Own wr w.heap.size 5 1 encB u l → wr.grownBy w1 u.ownBlock → Same w w1 := fun v1 w1 u o ho hg =>
      Below.grown HS.out hg HS.out.size (fun j hj => (Own.block ho hj).1)
    have HR := Lib.hid hrow
    clear hrow
    have hvb : V ≤ 18446744073709551615 := by have := HV2.out; have e : (2:Nat) ^ 64 = 18446744073709551616 := rfl; omega
    by_cases hge : 128 ≤ V
    · have HE : Hid (numB V = UInt8.ofNat (V % 128 + 128) :: numB (V / 128)) := by unfold Hid; conv => lhs; unfold numB; rw [if_neg (by omega)]
      go_wp2_with (at_builtin; refine app1 wr w.heap.size rfl (.tmp 6) (.tmp 11) _ 5 (.int .u8 0) 1 1 rfl Try.underlying101 infoB rfl (by decide) (by decide) encB (fun _ => rfl) (fun _ u hu => by simp at hu; subst hu; rfl) _ l (UInt8.ofNat (V % 128 + 128)) rfl rfl HO.out HS.out.size (by omega) (by rw [byte_hi2 V]) ?_; intro v1 w1 hown1 hg1 hat1; have HO1 := Lib.hid hown1; clear hown1; have HG1 := Lib.hid hg1; clear hg1 hat1)
      go_roundw
      case rel => exact ⟨V / 128, l ++ [UInt8.ofNat (V % 128 + 128)], by simp, by have := HV2.out; show V / 128 < 2 ^ 64; omega, by show numB v = _; rw [HN.out, HE.out]; simp, HO1.out, HR.out v1 w1 _ default HO.out HG1.out⟩
      case measure => simp [intOf]; omega
    · have HE : Hid (numB V = [UInt8.ofNat V]) := by unfold Hid numB; rw [if_pos (by omega)]
      have hlo : V < 128 := by omega
      go_wp2_with (at_builtin; refine app1 wr w.heap.size rfl (.tmp 15) (.tmp 18) _ 5 (.int .u8 0) 1 1 rfl Try.underlying101 infoB rfl (by decide) (by decide) encB (fun _ => rfl) (fun _ u hu => by simp at hu; subst hu; rfl) _ l (UInt8.ofNat V) rfl rfl HO.out HS.out.size (by omega) (by rw [byte_lo' V hlo]) ?_; intro v1 w1 hown1 hg1 hat1; have hcv := hown1.string Try.underlying101 Try.underlying5 Try.underlying9; have HG1 := Lib.hid hg1; clear hown1 hg1 hat1)
      go_ret
      exact ⟨ret_v (by rw [HN.out, HE.out]; rfl), HR.out v1 w1 _ default HO.out HG1.out⟩

set_option maxHeartbeats 400000 in
theorem fSignedW (x : Int) (w : World) (h0 : -9223372036854775808 ≤ x) (h1 : x ≤ 9223372036854775807) :
    Calls Try.prog 43 #[.int .i64 x] w fun r w' => r = .returned (.string (ofL (numB (zig x)))) ∧ Same w w' := by
  have HC := Lib.hid (fun W => fNumW (zig x) W (zig_lt x h0 h1))
  rcases Int.lt_or_le x 0 with hx | hx
  · have HZ : Hid (((zig x : Nat) : Int) = 2 * -(x + 1) + 1) := by unfold Hid zig; rw [if_pos hx]; omega
    go_enter Try.func43, Try.ntmps43
    go_wp2_with fail
    rw [← HZ.out]
    refine (HC.out _).mono ?_
    rintro r w1 ⟨rfl, hs⟩
    have HS := Lib.hid hs
    clear hs
    go_wp2_with fail
    go_ret
    exact ⟨rfl, HS.out⟩
  · have HZ : Hid (((zig x : Nat) : Int) = 2 * x) := by unfold Hid zig; rw [if_neg (by omega)]; omega
    go_enter Try.func43, Try.ntmps43
    go_wp2_with fail
    rw [← HZ.out]
    refine (HC.out _).mono ?_
    rintro r w1 ⟨rfl, hs⟩
    have HS := Lib.hid hs
    clear hs
    go_wp2_with fail
    go_ret
    exact ⟨rfl, HS.out⟩
end Go.Proofs.Ytjmnncggjgmfdaa
