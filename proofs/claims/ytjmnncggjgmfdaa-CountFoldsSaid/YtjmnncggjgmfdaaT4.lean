/- The walks of the reference's reader and writers of numbers. -/
import Derived.Test.YtjmnncggjgmfdaaT3
namespace Go.Proofs.Ytjmnncggjgmfdaa
open Go.RowKit Ws
set_option linter.unusedVariables false
set_option linter.unusedSimpArgs false

/-- The reference's reader in block g. -/
def Rdf (w : World) (g : Nat) (st : Rs) : Prop := ∃ (s : ByteArray) (p : Nat), p ≤ s.size ∧ s.size ≤ 140737488351232 ∧ st.rest = s.data.toList.drop p ∧
  Bk w g 34 #[.string s, .int .i64 p, .int .i64 st.err]

theorem num_step2 (V b k : Nat) (hV : V < 2 ^ (7 * k)) (hk : k ≤ 9) (hb : b < 256) (h9 : k = 9 → b ≤ 1) :
    bits .or .u64 (V : Int) (IntKind.u64.wrap (((b : Int) % 128) * 2 ^ (7 * k))) = ((V + b % 128 * 2 ^ (7 * k) : Nat) : Int) := by
  have e1 : bits .andNot .u8 (b : Int) 128 = ((b % 128 : Nat) : Int) := by
    rw [show (128 : Int) = ((128 : Nat) : Int) by rfl, u8_andNot_nat b 128 hb (by omega)]
    congr 1
    exact Nat.and_two_pow_sub_one_eq_mod b 7
  rw [← num_step V b k hV hk hb h9, e1]
  have e2 : IntKind.u64.wrap (((b % 128 : Nat) : Int)) = ((b % 128 : Nat) : Int) := by rw [IntKind.wrap_u64]; omega
  rw [e2]; simp

theorem num_step9 (V b : Nat) (hV : V < 2 ^ (7 * 9)) (hb : b ≤ 1) :
    bits .or .u64 (V : Int) ((b : Int) % 128 * 9223372036854775808) = ((V + b % 128 * 2 ^ (7 * 9) : Nat) : Int) := by
  rw [← num_step2 V b 9 hV (by omega) (by omega) (fun _ => hb)]
  have e : (2 : Int) ^ (7 * 9) = 9223372036854775808 := rfl
  rw [e, IntKind.wrap_u64]
  congr 1
  omega

/-- What reading a number comes to. -/
def FNum (g p : Nat) (s : ByteArray) (w : World) (x : Except Int (Nat × Nat)) (r : Ending) (w' : World) : Prop :=
  (match x with
    | .ok (v, n) => r = .returned (.int .u64 v) ∧ Bk w' g 34 #[.string s, .int .i64 (p + n : Nat), .int .i64 0]
    | .error e => r = .returned (.int .u64 0) ∧ Bk w' g 34 #[.string s, .int .i64 p, .int .i64 e]) ∧ Only w w' g

set_option maxRecDepth 10000 in
set_option maxHeartbeats 1000000 in
theorem fNum_raw (g p : Nat) (s : ByteArray) (w : World) (h : Bk w g 34 #[.string s, .int .i64 p, .int .i64 0]) (hp : p ≤ s.size) (hs : s.size ≤ 140737488351232) :
    Calls Try.prog 69 #[.pointer (some ⟨g, 0, none⟩)] w (FNum g p s w (numR 0 0 (s.data.toList.drop p))) := by
  have c0 : w.cell? ⟨g, 0, none⟩ = some (.string s) := Bk.cell h 0 _ rfl
  have c1 : w.cell? ⟨g, 1, none⟩ = some (.int .i64 p) := Bk.cell h 1 _ rfl
  have c2 : w.cell? ⟨g, 2, none⟩ = some (.int .i64 0) := Bk.cell h 2 _ rfl
  have f1 := Bk.frozen h 1
  have f2 := Bk.frozen h 2
  have HB := Lib.hid h
  clear h
  go_enter Try.func69, Try.ntmps69
  go_wp2
  go_loopw [3, 4] (fun v n wr => ∃ k V q : Nat, k ≤ 9 ∧ p + k ≤ s.size ∧ Hid (V < 2 ^ (7 * k)) ∧ v = .int .u64 V ∧ n = .int .i64 k ∧ Hid (numR 0 0 (s.data.toList.drop p) = numR k V (s.data.toList.drop (p + k))) ∧ wr = w.drewN q) (fun _ n _ => 10 - (intOf n).toNat)
  case atStart => exact ⟨0, 0, 0, by omega, by omega, by show 0 < 2 ^ (7 * 0); decide, rfl, rfl, rfl, rfl⟩
  case round =>
    obtain ⟨k, V, q, hk9, hks, HV, rfl, rfl, HR, rfl⟩ := hrel
    have e1 : IntKind.i64.wrap ((p : Int) + (k : Int)) = (p : Int) + k := IntWalk.i64_in _ (by omega)
    have e2 : 0 ≤ (p : Int) + k := by omega
    have e3 : ((p : Int) + k).toNat = p + k := by omega
    have hk10 : (k : Int) < 10 := by omega
    rcases Nat.lt_or_ge (p + k) s.size with hlt | hge
    · have d1 : (p : Int) + k < s.size := by omega
      have d2 : decide ((s.size : Int) ≤ (p : Int) + k) = false := by simp; omega
      have hbl : s[p + k].toNat < 256 := s[p + k].toNat_lt
      have HE : Hid (numR k V (s.data.toList.drop (p + k)) = if (k = 9 ∧ 1 < s[p + k].toNat) ∨ (0 < k ∧ s[p + k].toNat = 0) then .error 6
          else if s[p + k].toNat < 128 then .ok (V + s[p + k].toNat % 128 * 2 ^ (7 * k), k + 1) else numR (k + 1) (V + s[p + k].toNat % 128 * 2 ^ (7 * k)) (s.data.toList.drop (p + k + 1))) := by
        rw [drop_cons s (p + k) hlt]; rfl
      rcases Nat.lt_or_ge k 9 with h9 | h9
      · have c9 : ((k : Int) == 9) = false := by simp; omega
        have HS := Lib.hid (num_step2 V s[p + k].toNat k HV.out hk9 hbl (fun h => by omega))
        go_wp2
        go_quiet (fail)
        go_wp2
        go_quiet (fail)
        go_wp2
        all_goals first
          | (go_ret
             rw [HR.out, HE.out, if_pos (by simp at *; omega)]
             exact ⟨⟨rfl, (HB.out.drewN _).set 2 _⟩, ((Only.refl _ _).drewN _).setg _ _⟩)
          | (go_ret
             rw [HR.out, HE.out, if_neg (by simp at *; omega), if_pos (by simp at *; omega)]
             refine ⟨⟨ret_v (by rw [← HS.out]; rfl), ?_⟩, ((Only.refl _ _).drewN _).setg _ _⟩
             have e : ((p + (k + 1) : Nat) : Int) = (p : Int) + k + 1 := by omega
             rw [e]; exact (HB.out.drewN _).set 1 _)
          | (go_roundw
             case rel =>
               refine ⟨k + 1, V + s[p + k].toNat % 128 * 2 ^ (7 * k), _, by omega, by omega, num_bound V _ k HV.out, by rw [HS.out], by go_num, ?_, rfl⟩
               show numR 0 0 (s.data.toList.drop p) = _
               rw [HR.out, HE.out, if_neg (by simp at *; omega), if_neg (by simp at *; omega)]; rfl
             case measure => simp [intOf]; omega)
      · obtain rfl : k = 9 := by omega
        clear e1 e2 e3 d1 d2
        have e1 : IntKind.i64.wrap ((p : Int) + 9) = (p : Int) + 9 := IntWalk.i64_in _ (by omega)
        have e2 : 0 ≤ (p : Int) + 9 := by omega
        have e3 : ((p : Int) + 9).toNat = p + 9 := by omega
        have d1 : (p : Int) + 9 < s.size := by omega
        have d2 : decide ((s.size : Int) ≤ (p : Int) + 9) = false := by simp; omega
        have HS := Lib.hid (fun (h : s[p + 9].toNat ≤ 1) => num_step9 V s[p + 9].toNat HV.out h)
        go_wp2
        go_quiet (fail)
        go_wp2
        go_quiet (fail)
        go_wp2
        all_goals first
          | (go_ret
             rw [HR.out, HE.out, if_pos (by simp at *; omega)]
             exact ⟨⟨rfl, (HB.out.drewN _).set 2 _⟩, ((Only.refl _ _).drewN _).setg _ _⟩)
          | (go_ret
             rw [HR.out, HE.out, if_neg (by simp at *; omega), if_pos (by simp at *; omega)]
             refine ⟨⟨ret_v (by rw [← HS.out (by simp at *; omega)]; rfl), ?_⟩, ((Only.refl _ _).drewN _).setg _ _⟩
             have e : ((p + (9 + 1) : Nat) : Int) = (p : Int) + 9 + 1 := by omega
             rw [e]; exact (HB.out.drewN _).set 1 _)
    · have d1 : (s.size : Int) ≤ (p : Int) + k := by omega
      have d2 : decide ((s.size : Int) ≤ (p : Int) + k) = true := by simp; omega
      go_wp2
      go_quiet (fail)
      go_wp2
      go_ret
      rw [HR.out, List.drop_of_length_le (by rw [size_toList]; exact hge)]
      exact ⟨⟨rfl, (HB.out.drewN _).set 2 _⟩, ((Only.refl _ _).drewN _).setg _ _⟩
end Go.Proofs.Ytjmnncggjgmfdaa
