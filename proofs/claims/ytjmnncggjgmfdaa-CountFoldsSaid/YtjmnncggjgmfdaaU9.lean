/- The walks of times, each whole. -/
import Derived.Test.YtjmnncggjgmfdaaU8
namespace Go.Proofs.Ytjmnncggjgmfdaa
open Go.RowKit Ws
set_option linter.unusedVariables false
set_option linter.unusedSimpArgs false

theorem readT0 (st s1 s2 : Rs) (e : Int) (h0 : st.int 3 = (0, s1)) (h1 : s1.int MC = (e, s2)) :
    readT st = if s2.err = 0 then (⟨e, 0, 0, 0, 0⟩, s2) else (Tm.zero, s2) := by
  unfold readT Rs.intIf
  simp [h0, h1]
theorem readT1 (st s1 s2 s3 : Rs) (e a : Int) (h0 : st.int 3 = (1, s1)) (h1 : s1.int MC = (e, s2)) (h2 : s2.int MC = (a, s3)) :
    readT st = if s3.err = 0 then (⟨e, 1, a, 0, 0⟩, s3) else (Tm.zero, s3) := by
  unfold readT Rs.intIf
  simp [h0, h1, h2]
theorem readT2 (st s1 s2 s3 s4 : Rs) (e a b : Int) (h0 : st.int 3 = (2, s1)) (h1 : s1.int MC = (e, s2)) (h2 : s2.int MC = (a, s3)) (h3 : s3.int MC = (b, s4)) :
    readT st = if s4.err = 0 then (⟨e, 2, a, b, 0⟩, s4) else (Tm.zero, s4) := by
  unfold readT Rs.intIf
  simp [h0, h1, h2, h3]
theorem readT3 (st s1 s2 s3 s4 s5 : Rs) (e a b c : Int) (h0 : st.int 3 = (3, s1)) (h1 : s1.int MC = (e, s2)) (h2 : s2.int MC = (a, s3)) (h3 : s3.int MC = (b, s4)) (h4 : s4.int MC = (c, s5)) :
    readT st = if s5.err = 0 then (⟨e, 3, a, b, c⟩, s5) else (Tm.zero, s5) := by
  unfold readT Rs.intIf
  simp [h0, h1, h2, h3, h4]
theorem ite_fst {α β : Type} (c : Prop) [Decidable c] (x y : α) (s : β) : (if c then (x, s) else (y, s)) = ((if c then x else y), s) := by split <;> rfl


theorem tread (g : Nat) (st : Rs) (w : World) (h : Rdr w g st) (hb : st.rest.length ≤ 140737488351232) : Calls Try.prog 45 #[.pointer (some ⟨g, 0, none⟩)] w fun r w' =>
    r = .returned (vT (readT st).1) ∧ Rdr w' g (readT st).2 ∧ Only w w' g := by
  obtain ⟨d, s1, h0⟩ : ∃ d s1, st.int 3 = (d, s1) := ⟨_, _, rfl⟩
  obtain ⟨e, s2, h1⟩ : ∃ d s2, s1.int MC = (d, s2) := ⟨_, _, rfl⟩
  obtain ⟨a, s3, h2⟩ : ∃ d s3, s2.int MC = (d, s3) := ⟨_, _, rfl⟩
  obtain ⟨b, s4, h3⟩ : ∃ d s4, s3.int MC = (d, s4) := ⟨_, _, rfl⟩
  obtain ⟨c, s5, h4⟩ : ∃ d s5, s4.int MC = (d, s5) := ⟨_, _, rfl⟩
  have hd := int_bd st 3 (by decide)
  rw [h0] at hd
  simp only at hd
  have hd : d = 0 ∨ d = 1 ∨ d = 2 ∨ d = 3 := by omega
  rcases hd with rfl | rfl | rfl | rfl
  · rw [readT0 st s1 s2 e h0 h1, ite_fst]
    exact tread_0 g st w h hb s1 h0 e s2 h1
  · rw [readT1 st s1 s2 s3 e a h0 h1 h2, ite_fst]
    exact tread_1 g st w h hb s1 h0 e s2 h1 a s3 h2
  · rw [readT2 st s1 s2 s3 s4 e a b h0 h1 h2 h3, ite_fst]
    exact tread_2 g st w h hb s1 h0 e s2 h1 a s3 h2 b s4 h3
  · rw [readT3 st s1 s2 s3 s4 s5 e a b c h0 h1 h2 h3 h4, ite_fst]
    exact tread_3 g st w h hb s1 h0 e s2 h1 a s3 h2 b s4 h3 c s5 h4

theorem fread (g : Nat) (st : Rs) (w : World) (h : Rdf w g st) (hb : st.rest.length ≤ 140737488351232) : Calls Try.prog 49 #[.pointer (some ⟨g, 0, none⟩)] w fun r w' =>
    r = .returned (vT (readT st).1) ∧ Rdf w' g (readT st).2 ∧ Only w w' g := by
  obtain ⟨d, s1, h0⟩ : ∃ d s1, st.int 3 = (d, s1) := ⟨_, _, rfl⟩
  obtain ⟨e, s2, h1⟩ : ∃ d s2, s1.int MC = (d, s2) := ⟨_, _, rfl⟩
  obtain ⟨a, s3, h2⟩ : ∃ d s3, s2.int MC = (d, s3) := ⟨_, _, rfl⟩
  obtain ⟨b, s4, h3⟩ : ∃ d s4, s3.int MC = (d, s4) := ⟨_, _, rfl⟩
  obtain ⟨c, s5, h4⟩ : ∃ d s5, s4.int MC = (d, s5) := ⟨_, _, rfl⟩
  have hd := int_bd st 3 (by decide)
  rw [h0] at hd
  simp only at hd
  have hd : d = 0 ∨ d = 1 ∨ d = 2 ∨ d = 3 := by omega
  rcases hd with rfl | rfl | rfl | rfl
  · rw [readT0 st s1 s2 e h0 h1, ite_fst]
    exact fread_0 g st w h hb s1 h0 e s2 h1
  · rw [readT1 st s1 s2 s3 e a h0 h1 h2, ite_fst]
    exact fread_1 g st w h hb s1 h0 e s2 h1 a s3 h2
  · rw [readT2 st s1 s2 s3 s4 e a b h0 h1 h2 h3, ite_fst]
    exact fread_2 g st w h hb s1 h0 e s2 h1 a s3 h2 b s4 h3
  · rw [readT3 st s1 s2 s3 s4 s5 e a b c h0 h1 h2 h3 h4, ite_fst]
    exact fread_3 g st w h hb s1 h0 e s2 h1 a s3 h2 b s4 h3 c s5 h4

theorem twrite (t : Tm) (w : World) (ok : t.Ok) : Calls Try.prog 39 #[vT t] w fun r w' => r = writeT t ∧ Same w w' := by
  by_cases h : t.check = 0
  · obtain ⟨h1, h2, h3, h4, h5, h6, h7, h8, h9⟩ := check_ok h
    have hM : MC = 1048576 := rfl
    have := ok.e0
    have := ok.a0
    have := ok.b0
    have := ok.c0
    obtain ⟨e, d, a, b, c⟩ := t
    simp only at *
    have hw : writeT ⟨e, d, a, b, c⟩ = .returned (.tuple #[.string (ofL (Tm.bytes ⟨e, d, a, b, c⟩)), .int .i64 0]) := by unfold writeT Tm.write; rw [if_pos h]
    have hd : d = 0 ∨ d = 1 ∨ d = 2 ∨ d = 3 := by omega
    rcases hd with rfl | rfl | rfl | rfl
    · refine (twrite_0 e a b c w (by omega) (by omega) h).mono fun r w' hh => ⟨?_, hh.2⟩
      rw [hh.1, hw]
      simp [Tm.bytes, ofL_append, ByteArray.append_assoc]
    · refine (twrite_1 e a b c w (by omega) (by omega) (by omega) (by omega) h).mono fun r w' hh => ⟨?_, hh.2⟩
      rw [hh.1, hw]
      simp [Tm.bytes, ofL_append, ByteArray.append_assoc]
    · refine (twrite_2 e a b c w (by omega) (by omega) (by omega) (by omega) (by omega) (by omega) h).mono fun r w' hh => ⟨?_, hh.2⟩
      rw [hh.1, hw]
      simp [Tm.bytes, ofL_append, ByteArray.append_assoc]
    · refine (twrite_3 e a b c w (by omega) (by omega) (by omega) (by omega) (by omega) (by omega) (by omega) (by omega) h).mono fun r w' hh => ⟨?_, hh.2⟩
      rw [hh.1, hw]
      simp [Tm.bytes, ofL_append, ByteArray.append_assoc]
  · exact twrite_bad t w h

theorem fwrite (t : Tm) (w : World) (ok : t.Ok) : Calls Try.prog 42 #[vT t] w fun r w' => r = writeT t ∧ Same w w' := by
  by_cases h : t.check = 0
  · obtain ⟨h1, h2, h3, h4, h5, h6, h7, h8, h9⟩ := check_ok h
    have hM : MC = 1048576 := rfl
    have := ok.e0
    have := ok.a0
    have := ok.b0
    have := ok.c0
    obtain ⟨e, d, a, b, c⟩ := t
    simp only at *
    have hw : writeT ⟨e, d, a, b, c⟩ = .returned (.tuple #[.string (ofL (Tm.bytes ⟨e, d, a, b, c⟩)), .int .i64 0]) := by unfold writeT Tm.write; rw [if_pos h]
    have hd : d = 0 ∨ d = 1 ∨ d = 2 ∨ d = 3 := by omega
    rcases hd with rfl | rfl | rfl | rfl
    · refine (fwrite_0 e a b c w (by omega) (by omega) h).mono fun r w' hh => ⟨?_, hh.2⟩
      rw [hh.1, hw]
      simp [Tm.bytes, ofL_append, ByteArray.append_assoc]
    · refine (fwrite_1 e a b c w (by omega) (by omega) (by omega) (by omega) h).mono fun r w' hh => ⟨?_, hh.2⟩
      rw [hh.1, hw]
      simp [Tm.bytes, ofL_append, ByteArray.append_assoc]
    · refine (fwrite_2 e a b c w (by omega) (by omega) (by omega) (by omega) (by omega) (by omega) h).mono fun r w' hh => ⟨?_, hh.2⟩
      rw [hh.1, hw]
      simp [Tm.bytes, ofL_append, ByteArray.append_assoc]
    · refine (fwrite_3 e a b c w (by omega) (by omega) (by omega) (by omega) (by omega) (by omega) (by omega) (by omega) h).mono fun r w' hh => ⟨?_, hh.2⟩
      rw [hh.1, hw]
      simp [Tm.bytes, ofL_append, ByteArray.append_assoc]
  · exact fwrite_bad t w h
end Go.Proofs.Ytjmnncggjgmfdaa
