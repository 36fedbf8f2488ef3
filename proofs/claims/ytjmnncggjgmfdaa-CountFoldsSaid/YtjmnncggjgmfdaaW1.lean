/- Any counts by places and times; any list's bytes; the counts of any bytes: the walk of the law. -/
import Derived.Test.YtjmnncggjgmfdaaN2
import Derived.Test.YtjmnncggjgmfdaaN3
import Derived.Test.YtjmnncggjgmfdaaV9
import Derived.Deep.RegionHeld3
namespace Go.Proofs.Ytjmnncggjgmfdaa
open Go.RowKit Ws
set_option linter.unusedVariables false
set_option linter.unusedSimpArgs false

theorem readN_rest (n : Nat) : ∀ s : Rs, (readN n s).2.rest.length ≤ s.rest.length := by
  induction n with
  | zero => intro s; exact Nat.le_refl _
  | succ n ih => intro s; simp only [readN]; exact Nat.le_trans (ih _) (readD_len s)
theorem readC_rest (s : Rs) : (readC s).2.rest.length ≤ s.rest.length := by
  have h := Nat.le_trans (readN_rest (s.int 256).1.toNat (s.int 256).2) (int_len s 256)
  unfold readC
  simp only
  split
  · split
    · exact h
    · exact h
  · exact h
theorem readC_len (s : Rs) : (readC s).1.length ≤ 256 := by
  unfold readC
  simp only
  split
  · split
    · rename_i hr
      simp only [right, decide_eq_true_eq] at hr
      have := fold_len (readN (s.int 256).1.toNat (s.int 256).2).1
      rwa [hr.2] at this
    · simp
  · simp

set_option maxRecDepth 20000 in
set_option maxHeartbeats 4000000 in
theorem countFolds_walk (v : Value) (l : List Dl) (s : ByteArray) (w : World) (hv : Rd w 7 encD v l) (ok : ∀ x ∈ l, x.Ok) (hlen : l.length ≤ 9223372036854775807) (hs : s.size ≤ 140737488351232) :
    Calls Try.prog 3 #[v, .string s] w fun r w' => r = .returned (.bool true) ∧ Same w w' := by
  have HR := Lib.hid hv
  have HK := Lib.hid ok
  obtain ⟨A, c, rfl, hc⟩ := hv.len
  clear hv ok
  by_cases h4 : 400 < l.length
  · have hg : decide ((l.length : Int) > 400) = true := by simp; omega
    go_enter Try.func3, Try.ntmps3
    go_wp2_with fail
    go_ret
    exact ⟨rfl, Same.refl _⟩
  by_cases h5 : 5000 < s.size
  · have hg : decide ((l.length : Int) > 400) = false := by simp; omega
    have hg : decide ((s.size : Int) > 5000) = true := by simp; omega
    go_enter Try.func3, Try.ntmps3
    go_wp2_with fail
    go_ret
    exact ⟨rfl, Same.refl _⟩
  have hg1 : decide ((l.length : Int) > 400) = false := by simp; omega
  have hg2 : decide ((s.size : Int) > 5000) = false := by simp; omega
  have hl : l.length ≤ 400 := by omega
  have hss : s.size ≤ 5000 := by omega
  clear h4 h5
  go_enter Try.func3, Try.ntmps3
  go_wp2_with fail
  refine (own_any _ l w HR.out (by omega)).mono ?_
  rintro r W1 ⟨u, rfl, ho1, hs1⟩
  have HU1 := Lib.hid ho1.rd
  have HS1 := Lib.hid hs1
  clear ho1 hs1
  have hlu := HU1.out.len
  obtain ⟨Au, cu, rfl, hcu⟩ := hlu
  go_wp2_with fail
  refine (fold_walk sort_ok _ l W1 HU1.out HK.out (by omega)).mono ?_
  rintro r W2 ⟨v2, rfl, ho2, hs2⟩
  have HA2 := Lib.hid ho2.rd
  have HS2 := Lib.hid (HS1.out.trans hs2)
  have HU2 := Lib.hid (HU1.out.same hs2)
  clear ho2 hs2 HS1 HU1
  go_wp2_with fail
  refine (rfold_walk _ l W2 (HR.out.same HS2.out) HK.out (by omega)).mono ?_
  rintro r W3 ⟨v3, rfl, ho3, hs3⟩
  have HB3 := Lib.hid ho3.rd
  have HA3 := Lib.hid (HA2.out.same hs3)
  have HS3 := Lib.hid (HS2.out.trans hs3)
  have HU3 := Lib.hid (HU2.out.same hs3)
  clear ho3 hs3 HS2 HU2 HA2
  go_wp2_with fail
  refine (dwrite sort_ok _ l W3 HU3.out HK.out (by omega)).mono ?_
  rintro r W4 ⟨rfl, hs4⟩
  have HB4 := Lib.hid (HB3.out.same hs4)
  have HA4 := Lib.hid (HA3.out.same hs4)
  have HS4 := Lib.hid (HS3.out.trans hs4)
  have HU4 := Lib.hid (HU3.out.same hs4)
  clear hs4 HS3 HU3 HA3 HB3
  unfold writeR
  obtain ⟨wb, we, hwr⟩ : ∃ wb we, writeC l = (wb, we) := ⟨_, _, rfl⟩
  have HWR := Lib.hid hwr
  rw [hwr]
  clear hwr
  go_wp2_with fail
  refine (fdwrite rfold_walk _ l W4 (HR.out.same HS4.out) HK.out (by omega)).mono ?_
  rintro r W5 ⟨rfl, hs5⟩
  have HB5 := Lib.hid (HB4.out.same hs5)
  have HA5 := Lib.hid (HA4.out.same hs5)
  have HS5 := Lib.hid (HS4.out.trans hs5)
  have HU5 := Lib.hid (HU4.out.same hs5)
  clear hs5 HS4 HU4 HA4 HB4
  unfold writeR
  rw [HWR.out]
  obtain ⟨fl, fe, hfo⟩ : ∃ fl fe, fold l = (fl, fe) := ⟨_, _, rfl⟩
  have hfl : fl.length ≤ 256 := by have := fold_len l; rw [hfo] at this; exact this
  rw [hfo] at HA5 HB5 ⊢
  clear hfo
  go_wp2_with fail
  refine (sameR _ _ _ _ W5 HA5.out HB5.out (by omega) (by omega)).mono ?_
  rintro r W6 ⟨rfl, q6, hq6⟩
  have HS6 : Hid (Same w W6) := by unfold Hid; rw [hq6]; exact HS5.out.drewN _
  have HU6 : Hid (Rd W6 7 encD (.slice Au l.length cu) l) := by unfold Hid; rw [hq6]; exact HU5.out
  clear hq6 HS5 HU5 HA5 HB5
  simp only [decide_true]
  go_wp2_with fail
  refine (sameR _ _ l l W6 HU6.out (HR.out.same HS6.out) (by omega) (by omega)).mono ?_
  rintro r W7 ⟨rfl, q7, hq7⟩
  have HS7 : Hid (Same w W7) := by unfold Hid; rw [hq7]; exact HS6.out.drewN _
  clear hq7 HS6 HU6
  simp only [decide_true]
  go_wp2_with fail
  refine (rNew s W7).mono ?_
  rintro r W8 ⟨rfl, hr8, hs8⟩
  have HP8 := Lib.hid hr8
  have HS8 := Lib.hid (HS7.out.trans hs8)
  have hg1 : w.heap.size ≤ W7.heap.size := HS7.out.size
  have hg8 := hs8.size
  have hlt8 := Bk.lt hr8
  clear hs8 hr8
  go_wp2_with fail
  generalize hgp : W7.heap.size = gp at *
  obtain ⟨W9, hW9⟩ : ∃ W9, W8.alloc (.cells #[.string s, .int .i64 0, .int .i64 0] 34) = W9 := ⟨_, rfl⟩
  have HP9 : Hid (Rdr W9 gp ⟨s.data.toList, 0⟩) := by unfold Hid Rdr; rw [← hW9]; exact HP8.out.alloc _
  have HQ9 : Hid (Rdf W9 W8.heap.size ⟨s.data.toList, 0⟩) := by unfold Hid; rw [← hW9]; exact ⟨s, 0, Nat.zero_le _, hs, rfl, Bk.new _ _ _⟩
  have HS9 : Hid (Same w W9) := by unfold Hid; rw [← hW9]; exact HS8.out.alloc _
  rw [hW9]
  have hne : gp ≠ W8.heap.size := by omega
  have hg9 : w.heap.size ≤ W8.heap.size := by omega
  generalize hgq : W8.heap.size = gq at *
  clear HP8 HS8 hW9
  go_loopw [16] (fun iv wq => ∃ (i : Nat) (st : Rs), iv = .int .i64 i ∧ i ≤ 2 ∧ Hid (Rdr wq gp st) ∧ Hid (Rdf wq gq st) ∧ Hid (Same w wq) ∧ st.rest.length ≤ 140737488351232) (fun iv _ => 2 - (intOf iv).toNat)
  case atStart => exact ⟨0, ⟨s.data.toList, 0⟩, rfl, by omega, HP9.out, HQ9.out, HS9.out, by simp only; rw [size_toList]; omega⟩
  case round =>
    obtain ⟨i, st, rfl, hi, HP, HQ, HS, hst⟩ := hrel
    rcases Nat.lt_or_ge i 2 with hil | hil
    · have hi2 : (i : Int) < 2 := by omega
      obtain ⟨xs, st2, hrc⟩ : ∃ xs st2, readC st = (xs, st2) := ⟨_, _, rfl⟩
      have hxs : xs.length ≤ 256 := by have := readC_len st; rwa [hrc] at this
      have hst2 : st2.rest.length ≤ 140737488351232 := by have := readC_rest st; rw [hrc] at this; exact Nat.le_trans this hst
      have HRd : Hid (∀ W, Rdr W gp st → Calls Try.prog 12 #[.pointer (some ⟨gp, 0, none⟩)] W fun r w' => ∃ v, r = .returned v ∧ Own w' W.heap.size 69 7 encD v xs ∧ Rdr w' gp st2 ∧ Only W w' gp) := fun W h => by
        have := dread sort_ok gp st W h hst
        unfold ReadR at this
        rw [hrc] at this
        exact this
      have HFd : Hid (∀ W, Rdf W gq st → Calls Try.prog 13 #[.pointer (some ⟨gq, 0, none⟩)] W fun r w' => ∃ v, r = .returned v ∧ Own w' W.heap.size 69 7 encD v xs ∧ Rdf w' gq st2 ∧ Only W w' gq) := fun W h => by
        have := fdread rfold_walk gq st W h hst
        unfold ReadR at this
        rw [hrc] at this
        exact this
      clear hrc
      have hpl := Bk.lt HP.out
      have hql := HQ.out.lt
      go_wp2_with fail
      have HPd : Hid (Rdr wr.drew gp st) := HP.out
      have HQd : Hid (Rdf wr.drew gq st) := HQ.out
      have HSd : Hid (Same w wr.drew) := HS.out.drewN 1
      have hgd : wr.drew.heap.size = wr.heap.size := rfl
      go_region_with (first
        | ((go_at_call 12; (with_reducible refine (HRd.out _ HPd.out).mono ?_)); rintro r Wa ⟨va, rfl, hva, hpa, hoa⟩; have HVa := Lib.hid hva; have HPa := Lib.hid hpa; have HQa := Lib.hid (Rdf.only HQd.out hoa hne.symm); have HSa := Lib.hid (Same.only HSd.out hoa hg1); clear hva hpa hoa)
        | ((go_at_call 13; (with_reducible refine (HFd.out _ HQa.out).mono ?_)); rintro r Wb ⟨vb, rfl, hvb, hqb, hob⟩; have HVb := Lib.hid hvb.rd; have HVa2 := Lib.hid (Own.only HVa.out hob hql).rd; have HPb := Lib.hid (Bk.only HPa.out hob hne); have HQb := Lib.hid hqb; have HSb := Lib.hid (Same.only HSa.out hob hg9); clear hvb hqb hob)
        | ((go_at_call 10; (with_reducible refine (sameR _ _ xs xs _ HVa2.out HVb.out (Nat.le_trans hxs (by decide)) (Nat.le_trans hxs (by decide))).mono ?_)); rintro r Wc ⟨rfl, qc, hqc⟩; have HPc : Hid (Rdr Wc gp st2) := (by unfold Hid; rw [hqc]; exact HPb.out); have HQc : Hid (Rdf Wc gq st2) := (by unfold Hid; rw [hqc]; exact HQb.out); have HSc : Hid (Same w Wc) := (by unfold Hid; rw [hqc]; exact HSb.out.drewN _); have k2 := Rdf.cell2 HQc.out; clear hqc; simp only [decide_true])
        | ((go_at_call 14; (with_reducible refine (rErr gp st2 _ HPc.out).mono ?_)); rintro r w' ⟨rfl, rfl⟩)
        | ((go_at_call 15; (with_reducible refine (rLeft gp st2 _ HPc.out hst2).mono ?_)); rintro r w' ⟨rfl, rfl⟩)
        | ((go_at_call 16; (with_reducible refine (fLeft gq st2 _ HQc.out).mono ?_)); rintro r Wd ⟨rfl, hsd⟩; have HPe := Lib.hid (Bk.same HPc.out hsd); have HQe := Lib.hid (HQc.out.same hsd); have HSe := Lib.hid (HSc.out.trans hsd); clear hsd))
      all_goals
        go_wp2_with fail
        go_roundw
        case rel => exact ⟨i + 1, st2, by go_num, by omega, HPe.out, HQe.out, HSe.out, hst2⟩
        case measure => simp [intOf]; omega
    · obtain rfl : i = 2 := by omega
      go_wp2_with fail
      go_ret
      exact ⟨rfl, HS.out⟩
end Go.Proofs.Ytjmnncggjgmfdaa
