/- The walks of package code's writers. -/
import Derived.Test.YtjmnncggjgmfdaaBa
namespace Go.Proofs.Ytjmnncggjgmfdaa
open Go.RowKit Ws
set_option linter.unusedVariables false
set_option linter.unusedSimpArgs false

theorem infoB : (Try.prog.info? 5).map (fun i => (i.zero, i.size, i.bytes)) = some (some (.int .u8 0), 1, 1) := by kernel_rfl

theorem byte_hi (V : Nat) : encB (UInt8.ofNat (V % 128 + 128)) = [.int .u8 (bits .or .u8 (((V : Int)) % 256) 128)] := by
  rw [or128]; simp only [encB]; congr 2; simp; omega
theorem byte_lo (V : Nat) (h : V < 128) : encB (UInt8.ofNat V) = [.int .u8 ((V : Int) % 256)] := by
  simp only [encB]; congr 2
theorem byte_lo' (V : Nat) (h : V < 128) : encB (UInt8.ofNat V) = [.int .u8 (V : Int)] := by
  simp only [encB]; congr 2; simp; omega

set_option maxRecDepth 10000 in
set_option maxHeartbeats 400000 in
theorem num_any (v : Nat) (w : World) (hv : v < 2 ^ 64) :
    Calls Try.prog 38 #[.int .u64 v] w fun r w' => r = .returned (.string (ofL (numB v))) ∧ Same w w' := by
  have HV := Lib.hid hv
  clear hv
  go_enter Try.func38, Try.ntmps38
  go_wp2
  go_loopw [0, 3] (fun x r wr => ∃ (V : Nat) (l : List UInt8), x = .int .u64 V ∧ Hid (numB v = l ++ numB V) ∧ Hid (Own wr w.heap.size 5 1 encB r l) ∧ Hid (Same w wr)) (fun x _ _ => (intOf x).toNat)
  case atStart => exact ⟨v, [], rfl, rfl, Own.nil _ _ _ _ _, Same.refl _⟩
  case round =>
    obtain ⟨V, l, rfl, HN, HO, HS⟩ := hrel
    have hlen : l.length ≤ 9 := by
      have h1 := numB_len v 10 (Nat.lt_of_lt_of_le HV.out (by decide)) (by omega)
      have h2 := numB_pos V
      rw [HN.out, List.length_append] at h1
      omega
    have hrow : ∀ (v1 : Value) (w1 : World) (u : Value) (o : Obj), Own wr w.heap.size 5 1 encB u l → wr.grownBy w1 u.ownBlock → Same w w1 := fun v1 w1 u o ho hg =>
      Below.grown HS.out hg HS.out.size (fun j hj => (Own.block ho hj).1)
    have HR := Lib.hid hrow
    clear hrow
    by_cases hge : 128 ≤ V
    · have HE : Hid (numB V = UInt8.ofNat (V % 128 + 128) :: numB (V / 128)) := by unfold Hid; conv => lhs; unfold numB; rw [if_neg (by omega)]
      go_wp2_with (at_builtin; refine app1 wr w.heap.size rfl (.tmp 6) (.tmp 10) _ 5 (.int .u8 0) 1 1 rfl Try.underlying101 infoB rfl (by decide) (by decide) encB (fun _ => rfl) (fun _ u hu => by simp at hu; subst hu; rfl) _ l (UInt8.ofNat (V % 128 + 128)) rfl rfl HO.out HS.out.size (by omega) (by rw [byte_hi V]) ?_; intro v1 w1 hown1 hg1 hat1; have HO1 := Lib.hid hown1; clear hown1; have HG1 := Lib.hid hg1; clear hg1 hat1)
      go_roundw
      case rel => exact ⟨V / 128, l ++ [UInt8.ofNat (V % 128 + 128)], by simp, by show numB v = _; rw [HN.out, HE.out]; simp, HO1.out, HR.out v1 w1 _ default HO.out HG1.out⟩
      case measure => simp [intOf]; omega
    · have HE : Hid (numB V = [UInt8.ofNat V]) := by unfold Hid numB; rw [if_pos (by omega)]
      have hlo : V < 128 := by omega
      go_wp2_with (at_builtin; refine app1 wr w.heap.size rfl (.tmp 14) (.tmp 17) _ 5 (.int .u8 0) 1 1 rfl Try.underlying101 infoB rfl (by decide) (by decide) encB (fun _ => rfl) (fun _ u hu => by simp at hu; subst hu; rfl) _ l (UInt8.ofNat V) rfl rfl HO.out HS.out.size (by omega) (by rw [byte_lo' V hlo]) ?_; intro v1 w1 hown1 hg1 hat1; have hcv := hown1.string Try.underlying101 Try.underlying5 Try.underlying9; have HG1 := Lib.hid hg1; clear hown1 hg1 hat1)
      go_ret
      exact ⟨ret_v (by rw [HN.out, HE.out]; rfl), HR.out v1 w1 _ default HO.out HG1.out⟩
end Go.Proofs.Ytjmnncggjgmfdaa
