/- The walks of package code's reader. -/
import Derived.Test.YtjmnncggjgmfdaaBa
namespace Go.Proofs.Ytjmnncggjgmfdaa
open Go.RowKit Ws
set_option linter.unusedVariables false
set_option linter.unusedSimpArgs false

def numRes : Except Int (Nat × Nat) → Value
  | .ok (v, n) => .tuple #[.int .u64 v, .int .i64 n, .int .i64 0]
  | .error e => .tuple #[.int .u64 0, .int .i64 0, .int .i64 e]

set_option maxRecDepth 10000 in
set_option maxHeartbeats 400000 in
theorem number_any (s : ByteArray) (w : World) (hs : s.size ≤ 140737488351232) :
    Calls Try.prog 86 #[.string s] w fun r w' => r = .returned (numRes (numR 0 0 s.data.toList)) ∧ w = w' := by
  go_enter Try.func86, Try.ntmps86
  go_wp2
  go_loop [2, 3] (fun v n => ∃ k V : Nat, k ≤ 9 ∧ k ≤ s.size ∧ V < 2 ^ (7 * k) ∧ v = .int .u64 V ∧ n = .int .i64 k ∧ Hid (numR 0 0 s.data.toList = numR k V (s.data.toList.drop k))) (fun _ n => s.size - (intOf n).toNat)
  case atStart => exact ⟨0, 0, by omega, by omega, by decide, rfl, rfl, rfl⟩
  case round =>
    obtain ⟨k, V, hk9, hks, hV, rfl, rfl, HR⟩ := hrel
    have HV := Lib.hid hV
    clear hV
    rcases Nat.lt_or_ge k s.size with hlt | hge
    · have c0 : ((k : Int) == (s.size : Int)) = false := by simp; omega
      have hbl : s[k].toNat < 256 := s[k].toNat_lt
      have HE : Hid (numR k V (s.data.toList.drop k) = if (k = 9 ∧ 1 < s[k].toNat) ∨ (0 < k ∧ s[k].toNat = 0) then .error 6
          else if s[k].toNat < 128 then .ok (V + s[k].toNat % 128 * 2 ^ (7 * k), k + 1) else numR (k + 1) (V + s[k].toNat % 128 * 2 ^ (7 * k)) (s.data.toList.drop (k + 1))) := by
        rw [drop_cons s k hlt]; rfl
      rcases Nat.lt_or_ge k 9 with h9 | h9
      · have c1 : ((k : Int) == 9) = false := by simp; omega
        have HS := Lib.hid (num_step V s[k].toNat k HV.out hk9 hbl (fun h => by omega))
        go_wp2
        all_goals first
          | (refine bodyPost_ret (results_tmp3 rfl _ _ _) rfl ⟨ret_v ?_, rfl⟩
             rw [HR.out, HE.out, if_pos (by simp at *; omega)]; rfl)
          | (refine bodyPost_ret (results_tmp3 rfl _ _ _) rfl ⟨ret_v ?_, rfl⟩
             rw [HR.out, HE.out, if_neg (by simp at *; omega), if_pos (by simp at *; omega)]
             simp only [numRes, ← HS.out]; rfl)
          | (refine ⟨⟨k + 1, V + s[k].toNat % 128 * 2 ^ (7 * k), by simp at *; omega, by omega, num_bound V _ k HV.out, by rw [HS.out], by go_num, ?_⟩, by simp [intOf]; omega⟩
             show numR 0 0 s.data.toList = _
             rw [HR.out, HE.out, if_neg (by simp at *; omega), if_neg (by simp at *; omega)])
      · obtain rfl : k = 9 := by omega
        have c2 : (9 == (s.size : Int)) = false := by simp; omega
        clear c0
        have HS := Lib.hid (fun (h : s[9].toNat ≤ 1) => num_step V s[9].toNat 9 HV.out hk9 hbl (fun _ => h))
        go_wp2
        all_goals first
          | (refine bodyPost_ret (results_tmp3 rfl _ _ _) rfl ⟨ret_v ?_, rfl⟩
             rw [HR.out, HE.out, if_pos (by simp at *; omega)]; rfl)
          | (refine bodyPost_ret (results_tmp3 rfl _ _ _) rfl ⟨ret_v ?_, rfl⟩
             rw [HR.out, HE.out, if_neg (by simp at *; omega), if_pos (by simp at *; omega)]
             simp only [numRes, ← HS.out (by simp at *; omega)]; rfl)
    · have c0 : ((k : Int) == (s.size : Int)) = true := by simp; omega
      go_wp2
      refine bodyPost_ret (results_tmp3 rfl _ _ _) rfl ⟨ret_v ?_, rfl⟩
      rw [HR.out, List.drop_of_length_le (by rw [size_toList]; exact hge)]; rfl

/-- A reader in block g. -/
def Rdr (w : World) (g : Nat) (st : Rs) : Prop := Bk w g 86 #[.string (ofL st.rest), .int .i64 st.err]

theorem numR_le : ∀ (l : List UInt8) (n v : Nat) {a m : Nat}, numR n v l = .ok (a, m) → m ≤ n + l.length
  | [], n, v, a, m, h => by simp [numR] at h
  | b :: l, n, v, a, m, h => by
    simp only [numR] at h
    split at h
    · cases h
    · split at h
      · injection h with h; injection h with _ h; simp; omega
      · have := numR_le l (n + 1) _ h; simp; omega

theorem Rdr.cells {w : World} {g : Nat} {st : Rs} (h : Rdr w g st) :
    w.cell? ⟨g, 0, none⟩ = some (.string (ofL st.rest)) ∧ w.cell? ⟨g, 1, none⟩ = some (.int .i64 st.err) ∧ w.frozen? ⟨g, 0, none⟩ = false ∧ w.frozen? ⟨g, 1, none⟩ = false :=
  ⟨Bk.cell h 0 _ rfl, Bk.cell h 1 _ rfl, Bk.frozen h 0, Bk.frozen h 1⟩

set_option maxHeartbeats 400000 in
theorem rNum (g : Nat) (st : Rs) (w : World) (h : Rdr w g st) (hb : st.rest.length ≤ 140737488351232) :
    Calls Try.prog 68 #[.pointer (some ⟨g, 0, none⟩)] w fun r w' => r = .returned (.int .u64 st.num.1) ∧ Rdr w' g st.num.2 ∧ Only w w' g := by
  obtain ⟨c0, c1, f0, f1⟩ := h.cells
  obtain ⟨l, err⟩ := st
  have HB := Lib.hid h
  clear h
  simp only at c0 c1 hb
  have hs : (ofL l).size ≤ 140737488351232 := by rw [ofL_size]; exact hb
  have HL : Hid ((ofL l).data.toList = l) := ofL_toList l
  have HS : Hid ((ofL l).size = l.length) := ofL_size l
  obtain ⟨s, hsl⟩ : ∃ s, ofL l = s := ⟨_, rfl⟩
  rw [hsl] at c0 HL HS hs
  have HSL := Lib.hid hsl
  clear hsl
  by_cases he : err = 0
  · subst he
    have hc := fun W => number_any s W hs
    rw [HL.out] at hc
    cases hn : numR 0 0 l with
    | error e =>
      rw [hn] at hc
      have HN : Hid (Rs.num ⟨l, 0⟩ = (0, ⟨l, e⟩)) := by unfold Hid; simp [Rs.num, hn]
      simp only [numRes] at hc
      have HC := Lib.hid hc
      clear hc hn
      go_enter Try.func68, Try.ntmps68
      go_wp2_with (go_at_call 86; refine (HC.out _).mono ?_; rintro r w' ⟨rfl, rfl⟩)
      go_ret
      rw [HN.out]
      refine ⟨rfl, ?_, ?_⟩
      · have h2 := (HB.out.set 0 (.string s)).set 1 (.int .i64 e)
        show Bk _ g _ #[.string (ofL l), .int .i64 e]
        rw [HSL.out]; exact h2
      · exact ((Only.refl _ _).setg _ _).setg _ _
    | ok p =>
      obtain ⟨v, n⟩ := p
      have hle := numR_le l 0 0 hn
      rw [hn] at hc
      have HN : Hid (Rs.num ⟨l, 0⟩ = (v, ⟨l.drop n, 0⟩)) := by unfold Hid; simp [Rs.num, hn]
      simp only [numRes] at hc
      have HC := Lib.hid hc
      have hle2 : n ≤ s.size := by rw [HS.out]; omega
      clear hc hn hle
      go_enter Try.func68, Try.ntmps68
      go_wp2_with (go_at_call 86; refine (HC.out _).mono ?_; rintro r w' ⟨rfl, rfl⟩)
      go_ret
      rw [HN.out]
      refine ⟨rfl, ?_, ?_⟩
      · have h2 := (HB.out.set 0 (.string (s.extract n s.size))).set 1 (.int .i64 0)
        show Bk _ g _ #[.string (ofL (l.drop n)), .int .i64 0]
        rw [← HL.out, ← ofL_extract]; exact h2
      · exact ((Only.refl _ _).setg _ _).setg _ _
  · have HN : Hid (Rs.num ⟨l, err⟩ = (0, ⟨l, err⟩)) := by unfold Hid; simp [Rs.num, he]
    have he2 : (err == 0) = false := by simp [he]
    have he3 : (err != 0) = true := by simp [he]
    clear he
    go_enter Try.func68, Try.ntmps68
    go_wp2
    go_ret
    exact ⟨ret_v (by rw [HN.out]; rfl), by rw [HN.out]; exact HB.out, Only.refl _ _⟩
end Go.Proofs.Ytjmnncggjgmfdaa
