/- The walks of the reference's reader, in its own words. -/
import Derived.Test.YtjmnncggjgmfdaaT4
namespace Go.Proofs.Ytjmnncggjgmfdaa
open Go.RowKit Ws
set_option linter.unusedVariables false
set_option linter.unusedSimpArgs false

theorem numR_pos : ∀ (l : List UInt8) (n v : Nat) {a m : Nat}, numR n v l = .ok (a, m) → n + 1 ≤ m
  | [], n, v, a, m, h => by simp [numR] at h
  | b :: l, n, v, a, m, h => by
    simp only [numR] at h
    split at h
    · cases h
    · split at h
      · injection h with h; injection h with _ h; omega
      · have := numR_pos l (n + 1) _ h; omega

theorem Rdf.same {w w' : World} {g : Nat} {st : Rs} (h : Rdf w g st) (hs : Same w w') : Rdf w' g st :=
  let ⟨s, p, h1, h2, h3, h4⟩ := h; ⟨s, p, h1, h2, h3, h4.same hs⟩
theorem Rdf.only {w w' : World} {g k : Nat} {st : Rs} (h : Rdf w g st) (hs : Only w w' k) (hk : g ≠ k) : Rdf w' g st :=
  let ⟨s, p, h1, h2, h3, h4⟩ := h; ⟨s, p, h1, h2, h3, h4.only hs hk⟩
theorem Rdf.lt {w : World} {g : Nat} {st : Rs} (h : Rdf w g st) : g < w.heap.size := let ⟨_, _, _, _, _, h4⟩ := h; h4.lt
theorem Rdr.same {w w' : World} {g : Nat} {st : Rs} (h : Rdr w g st) (hs : Same w w') : Rdr w' g st := Bk.same h hs
theorem Rdr.only {w w' : World} {g k : Nat} {st : Rs} (h : Rdr w g st) (hs : Only w w' k) (hk : g ≠ k) : Rdr w' g st := Bk.only h hs hk

set_option maxHeartbeats 400000 in
theorem fNum (g : Nat) (st : Rs) (w : World) (h : Rdf w g st) :
    Calls Try.prog 69 #[.pointer (some ⟨g, 0, none⟩)] w fun r w' => r = .returned (.int .u64 st.num.1) ∧ Rdf w' g st.num.2 ∧ Only w w' g := by
  obtain ⟨s, p, hp, hs, hr, hb⟩ := h
  obtain ⟨l, err⟩ := st
  simp only at hr hb
  subst hr
  by_cases he : err = 0
  · subst he
    refine (fNum_raw g p s w hb hp hs).mono fun r w' hf => ?_
    unfold FNum at hf
    obtain ⟨hf, ho⟩ := hf
    cases hn : numR 0 0 (s.data.toList.drop p) with
    | error e =>
      rw [hn] at hf
      have e1 : Rs.num ⟨s.data.toList.drop p, 0⟩ = (0, ⟨s.data.toList.drop p, e⟩) := by simp [Rs.num, hn]
      rw [e1]
      exact ⟨hf.1, ⟨s, p, hp, hs, rfl, hf.2⟩, ho⟩
    | ok x =>
      obtain ⟨v, n⟩ := x
      rw [hn] at hf
      have e1 : Rs.num ⟨s.data.toList.drop p, 0⟩ = (v, ⟨(s.data.toList.drop p).drop n, 0⟩) := by simp [Rs.num, hn]
      have hle := numR_le _ 0 0 hn
      rw [List.length_drop, size_toList] at hle
      rw [e1]
      refine ⟨hf.1, ⟨s, p + n, by omega, hs, ?_, hf.2⟩, ho⟩
      simp [List.drop_drop]
  · have e1 : Hid (Rs.num ⟨s.data.toList.drop p, err⟩ = (0, ⟨s.data.toList.drop p, err⟩)) := by unfold Hid; simp [Rs.num, he]
    have c2 : w.cell? ⟨g, 2, none⟩ = some (.int .i64 err) := Bk.cell hb 2 _ rfl
    have HB := Lib.hid hb
    have he1 : (err == 0) = false := by simp [he]
    have he2 : (err != 0) = true := by simp [he]
    clear hb he
    go_enter Try.func69, Try.ntmps69
    go_wp2
    go_ret
    rw [e1.out]
    exact ⟨rfl, ⟨s, p, hp, hs, rfl, HB.out⟩, Only.refl _ _⟩

set_option maxHeartbeats 400000 in
theorem fInt (g : Nat) (st : Rs) (m : Int) (w : World) (h : Rdf w g st) (hm0 : 0 ≤ m) (hm : m ≤ 4611686018427387904) :
    Calls Try.prog 48 #[.pointer (some ⟨g, 0, none⟩), .int .i64 m] w fun r w' => r = .returned (.int .i64 (st.int m).1) ∧ Rdf w' g (st.int m).2 ∧ Only w w' g := by
  have hc := fNum g st w h
  clear h
  have hlt := num_lt st
  have HI : Hid (st.int m = if (if m < 0 ∨ m < (st.num.1 : Int) then st.num.2.fail 1 else st.num.2).err = 0 then ((st.num.1 : Int), if m < 0 ∨ m < (st.num.1 : Int) then st.num.2.fail 1 else st.num.2) else (0, if m < 0 ∨ m < (st.num.1 : Int) then st.num.2.fail 1 else st.num.2)) := rfl
  generalize hq : st.num = p at hc HI hlt
  obtain ⟨v, l, err⟩ := p
  clear hq
  simp only at hc HI hlt
  have HC := Lib.hid hc
  clear hc
  have hmd : decide (m < 0) = false := by simp; omega
  by_cases he : err = 0
  · subst he
    by_cases hv : m < (v : Int)
    · have HI2 : Hid (st.int m = (0, ⟨l, 1⟩)) := by unfold Hid; rw [HI.out]; simp [hv, Rs.fail]
      clear HI
      go_enter Try.func48, Try.ntmps48
      go_wp2_with fail
      refine HC.out.mono ?_
      rintro r w1 ⟨rfl, ⟨s, p, hp, hs, hr, hb⟩, ho1⟩
      have c2 : w1.cell? ⟨g, 2, none⟩ = some (.int .i64 0) := Bk.cell hb 2 _ rfl
      have f2 := Bk.frozen hb 2
      have HR := Lib.hid hr
      have HB := Lib.hid hb
      have HO1 := Lib.hid ho1
      clear hr hb ho1
      go_wp2_with fail
      go_ret
      rw [HI2.out]
      exact ⟨rfl, ⟨s, p, hp, hs, HR.out, HB.out.set 2 _⟩, HO1.out.setg _ _⟩
    · have HI2 : Hid (st.int m = ((v : Int), ⟨l, 0⟩)) := by
        have hn : ¬ (m < 0 ∨ m < (v : Int)) := by omega
        unfold Hid; rw [HI.out]; simp only [if_neg hn]; rfl
      have hv' : (v : Int) ≤ m := by omega
      clear HI hv
      go_enter Try.func48, Try.ntmps48
      go_wp2_with fail
      refine HC.out.mono ?_
      rintro r w1 ⟨rfl, ⟨s, p, hp, hs, hr, hb⟩, ho1⟩
      have c2 : w1.cell? ⟨g, 2, none⟩ = some (.int .i64 0) := Bk.cell hb 2 _ rfl
      have HR := Lib.hid hr
      have HB := Lib.hid hb
      have HO1 := Lib.hid ho1
      clear hr hb ho1
      go_wp2_with fail
      go_ret
      rw [HI2.out]
      exact ⟨rfl, ⟨s, p, hp, hs, HR.out, HB.out⟩, HO1.out⟩
  · have HI2 : Hid (st.int m = (0, ⟨l, err⟩)) := by
      unfold Hid; rw [HI.out]
      have : Rs.fail ⟨l, err⟩ 1 = ⟨l, err⟩ := by simp [Rs.fail, he]
      rw [this]; simp [he]
    have he1 : (err == 0) = false := by simp [he]
    have he2 : (err != 0) = true := by simp [he]
    clear HI he
    go_enter Try.func48, Try.ntmps48
    go_wp2_with fail
    refine HC.out.mono ?_
    rintro r w1 ⟨rfl, ⟨s, p, hp, hs, hr, hb⟩, ho1⟩
    have c2 : w1.cell? ⟨g, 2, none⟩ = some (.int .i64 err) := Bk.cell hb 2 _ rfl
    have HR := Lib.hid hr
    have HB := Lib.hid hb
    have HO1 := Lib.hid ho1
    clear hr hb ho1
    go_wp2_with fail
    go_ret
    rw [HI2.out]
    exact ⟨rfl, ⟨s, p, hp, hs, HR.out, HB.out⟩, HO1.out⟩

set_option maxHeartbeats 400000 in
theorem fSigned (g : Nat) (st : Rs) (w : World) (h : Rdf w g st) :
    Calls Try.prog 50 #[.pointer (some ⟨g, 0, none⟩)] w fun r w' => r = .returned (.int .i64 st.signed.1) ∧ Rdf w' g st.signed.2 ∧ Only w w' g := by
  have hc := fNum g st w h
  clear h
  have hlt := num_lt st
  have h64 : (2:Nat) ^ 64 = 18446744073709551616 := rfl
  rw [h64] at hlt
  clear h64
  have HI : Hid (st.signed = (unzig st.num.1, st.num.2)) := rfl
  generalize hq : st.num = p at hc HI hlt
  obtain ⟨v, s2⟩ := p
  clear hq
  simp only at hc HI hlt
  have HC := Lib.hid hc
  clear hc
  have hb : v / 2 ≤ 9223372036854775807 := by omega
  by_cases ho : v % 2 = 1
  · have HU : Hid (unzig v = -(((v / 2 : Nat)) : Int) - 1) := by unfold Hid unzig; rw [if_pos ho]
    have hd : ((v : Int) % 2 == 1) = true := by simp; omega
    clear ho
    go_enter Try.func50, Try.ntmps50
    go_wp2_with fail
    refine HC.out.mono ?_
    rintro r w1 ⟨rfl, hr1, ho1⟩
    have HR1 := Lib.hid hr1
    have HO1 := Lib.hid ho1
    clear hr1 ho1
    go_wp2_with fail
    go_ret
    rw [HI.out]
    exact ⟨ret_v (by rw [HU.out]; rfl), HR1.out, HO1.out⟩
  · have HU : Hid (unzig v = (((v / 2 : Nat)) : Int)) := by unfold Hid unzig; rw [if_neg ho]
    have hd : ((v : Int) % 2 == 1) = false := by simp; omega
    clear ho
    go_enter Try.func50, Try.ntmps50
    go_wp2_with fail
    refine HC.out.mono ?_
    rintro r w1 ⟨rfl, hr1, ho1⟩
    have HR1 := Lib.hid hr1
    have HO1 := Lib.hid ho1
    clear hr1 ho1
    go_wp2_with fail
    go_ret
    rw [HI.out]
    exact ⟨ret_v (by rw [HU.out]; rfl), HR1.out, HO1.out⟩

theorem fLeft (g : Nat) (st : Rs) (w : World) (h : Rdf w g st) :
    Calls Try.prog 16 #[.pointer (some ⟨g, 0, none⟩)] w fun r w' => r = .returned (.int .i64 st.rest.length) ∧ Same w w' := by
  obtain ⟨s, p, hp, hs, hr, hb⟩ := h
  have c0 : w.cell? ⟨g, 0, none⟩ = some (.string s) := Bk.cell hb 0 _ rfl
  have c1 : w.cell? ⟨g, 1, none⟩ = some (.int .i64 p) := Bk.cell hb 1 _ rfl
  have HR : Hid (((st.rest.length : Nat) : Int) = (s.size : Int) - p) := by unfold Hid; rw [hr, List.length_drop, size_toList]; omega
  have e1 : IntKind.i64.wrap ((s.size : Int) - p) = (s.size : Int) - p := IntWalk.i64_in _ (by omega)
  clear hr hb
  go_enter Try.func16, Try.ntmps16
  go_wp2
  go_quiet (fail)
  go_wp2
  go_ret
  exact ⟨ret_v (by rw [HR.out]; rfl), (Same.refl _).drewN _⟩
end Go.Proofs.Ytjmnncggjgmfdaa
