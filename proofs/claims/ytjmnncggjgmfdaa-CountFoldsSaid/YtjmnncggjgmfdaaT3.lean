/- The walks of package code's reader, its other methods. -/
import Derived.Test.YtjmnncggjgmfdaaT1
import Derived.Test.YtjmnncggjgmfdaaT2
import Derived.Lib.Zigzag
namespace Go.Proofs.Ytjmnncggjgmfdaa
open Go.RowKit Ws
set_option linter.unusedVariables false
set_option linter.unusedSimpArgs false

theorem rNew (s : ByteArray) (w : World) :
    Calls Try.prog 11 #[.string s] w fun r w' => r = .returned (.pointer (some ⟨w.heap.size, 0, none⟩)) ∧ Rdr w' w.heap.size ⟨s.data.toList, 0⟩ ∧ Same w w' := by
  go_enter Try.func11, Try.ntmps11
  go_wp2
  go_ret
  refine ⟨rfl, ?_, (Same.refl _).alloc _⟩
  show Bk _ _ _ #[.string (ofL s.data.toList), .int .i64 0]
  rw [ofL_of]; exact Bk.new w _ _

theorem rErr (g : Nat) (st : Rs) (w : World) (h : Rdr w g st) :
    Calls Try.prog 14 #[.pointer (some ⟨g, 0, none⟩)] w fun r w' => r = .returned (.int .i64 st.err) ∧ w = w' := by
  obtain ⟨c0, c1, f0, f1⟩ := h.cells
  clear h
  go_enter Try.func14, Try.ntmps14
  go_wp2
  go_ret
  exact ⟨rfl, rfl⟩

theorem rLeft (g : Nat) (st : Rs) (w : World) (h : Rdr w g st) (hb : st.rest.length ≤ 140737488351232) :
    Calls Try.prog 15 #[.pointer (some ⟨g, 0, none⟩)] w fun r w' => r = .returned (.int .i64 st.rest.length) ∧ w = w' := by
  obtain ⟨c0, c1, f0, f1⟩ := h.cells
  clear h
  have HS : Hid ((ofL st.rest).size = st.rest.length) := ofL_size _
  obtain ⟨s, hsl⟩ : ∃ s, ofL st.rest = s := ⟨_, rfl⟩
  rw [hsl] at c0 HS
  clear hsl
  go_enter Try.func15, Try.ntmps15
  go_wp2
  go_ret
  exact ⟨ret_v (by rw [← HS.out]; rfl), rfl⟩

theorem rFail (g : Nat) (st : Rs) (e : Int) (w : World) (h : Rdr w g st) :
    Calls Try.prog 47 #[.pointer (some ⟨g, 0, none⟩), .int .i64 e] w fun r w' => r = .returned (.tuple #[]) ∧ Rdr w' g (st.fail e) ∧ Only w w' g := by
  obtain ⟨c0, c1, f0, f1⟩ := h.cells
  have HB := Lib.hid h
  clear h
  by_cases he : st.err = 0
  · have HE : Hid (st.fail e = ⟨st.rest, e⟩) := by unfold Hid Rs.fail; rw [if_pos he]
    have he1 : (st.err == 0) = true := by simp [he]
    clear he
    go_enter Try.func47, Try.ntmps47
    go_wp2
    go_end0
    refine ⟨rfl, ?_, (Only.refl _ _).setg _ _⟩
    rw [HE.out]; exact HB.out.set 1 (.int .i64 e)
  · have HE : Hid (st.fail e = st) := by unfold Hid Rs.fail; rw [if_neg he]
    have he1 : (st.err == 0) = false := by simp [he]
    clear he
    go_enter Try.func47, Try.ntmps47
    go_wp2
    go_end0
    exact ⟨rfl, by rw [HE.out]; exact HB.out, Only.refl _ _⟩

theorem numR_lt : ∀ (l : List UInt8) (n v : Nat) {a m : Nat}, n ≤ 9 → v < 2 ^ (7 * n) → numR n v l = .ok (a, m) → a < 2 ^ 64
  | [], n, v, a, m, _, _, h => by simp [numR] at h
  | b :: l, n, v, a, m, hn, hv, h => by
    simp only [numR] at h
    have hb := b.toNat_lt
    have h1 := num_bound v b.toNat n hv
    split at h
    · cases h
    · rename_i hc
      split at h
      · injection h with h
        injection h with h _
        subst h
        rcases Nat.lt_or_ge n 9 with h9 | h9
        · exact Nat.lt_of_lt_of_le h1 (Nat.pow_le_pow_right (by omega) (by omega))
        · obtain rfl : n = 9 := by omega
          have : b.toNat % 128 ≤ 1 := by omega
          have := Nat.mul_le_mul_right (2 ^ (7 * 9)) this
          have e : (2:Nat) ^ 64 = 2 * 2 ^ (7 * 9) := rfl
          omega
      · rename_i hge
        have h9 : n < 9 := by omega
        exact numR_lt l (n + 1) _ (by omega) h1 h
theorem num_lt (st : Rs) : st.num.1 < 2 ^ 64 := by
  unfold Rs.num
  split
  · split
    · rename_i h; exact numR_lt _ 0 0 (by omega) (by omega) h
    · exact Nat.two_pow_pos 64
  · exact Nat.two_pow_pos 64

set_option maxHeartbeats 400000 in
theorem rInt (g : Nat) (st : Rs) (m : Int) (w : World) (h : Rdr w g st) (hb : st.rest.length ≤ 140737488351232) (hm0 : 0 ≤ m) (hm : m ≤ 4611686018427387904) :
    Calls Try.prog 44 #[.pointer (some ⟨g, 0, none⟩), .int .i64 m] w fun r w' => r = .returned (.int .i64 (st.int m).1) ∧ Rdr w' g (st.int m).2 ∧ Only w w' g := by
  have hc := rNum g st w h hb
  clear h hb
  have hlt := num_lt st
  have HI : Hid (st.int m = if (if m < 0 ∨ m < (st.num.1 : Int) then st.num.2.fail 1 else st.num.2).err = 0 then ((st.num.1 : Int), if m < 0 ∨ m < (st.num.1 : Int) then st.num.2.fail 1 else st.num.2) else (0, if m < 0 ∨ m < (st.num.1 : Int) then st.num.2.fail 1 else st.num.2)) := rfl
  generalize hq : st.num = p at hc HI hlt
  obtain ⟨v, s2⟩ := p
  clear hq
  simp only at hc HI hlt
  have HC := Lib.hid hc
  clear hc
  have hmd : decide (m < 0) = false := by simp; omega
  by_cases hv : m < (v : Int)
  · have hne : (s2.fail 1).err ≠ 0 := by unfold Rs.fail; split <;> simp_all
    have HI2 : Hid (st.int m = (0, s2.fail 1)) := by unfold Hid; rw [HI.out, if_pos (Or.inr hv), if_neg hne]
    have hf := fun W (hh : Rdr W g s2) => rFail g s2 1 W hh
    clear HI
    obtain ⟨s3, hs3⟩ : ∃ s3, s2.fail 1 = s3 := ⟨_, rfl⟩
    rw [hs3] at HI2 hf hne
    clear hs3
    have HF := Lib.hid hf
    clear hf
    have hne1 : (s3.err == 0) = false := by simp [hne]
    have hne2 : (s3.err != 0) = true := by simp [hne]
    clear hne
    go_enter Try.func44, Try.ntmps44
    go_wp2_with fail
    refine HC.out.mono ?_
    rintro r w1 ⟨rfl, hr1, ho1⟩
    have HR1 := Lib.hid hr1
    have HO1 := Lib.hid ho1
    clear hr1 ho1
    go_wp2_with fail
    refine (HF.out _ HR1.out).mono ?_
    rintro r w2 ⟨rfl, hr2, ho2⟩
    obtain ⟨c0, c1, f0, f1⟩ := hr2.cells
    have HR2 := Lib.hid hr2
    have HO2 := Lib.hid ho2
    clear hr2 ho2
    go_wp2_with fail
    go_ret
    rw [HI2.out]
    exact ⟨rfl, HR2.out, HO1.out.trans HO2.out⟩
  · have hv' : (v : Int) ≤ m := by omega
    have HI2 : Hid (st.int m = if s2.err = 0 then ((v : Int), s2) else (0, s2)) := by
      have hn : ¬ (m < 0 ∨ m < (v : Int)) := by omega
      unfold Hid; rw [HI.out]; simp only [if_neg hn]
    clear HI hv
    by_cases he : s2.err = 0
    · have HI3 : Hid (st.int m = ((v : Int), s2)) := by unfold Hid; rw [HI2.out, if_pos he]
      have he1 : (s2.err == 0) = true := by simp [he]
      have he2 : (s2.err != 0) = false := by simp [he]
      clear he HI2
      go_enter Try.func44, Try.ntmps44
      go_wp2_with fail
      refine HC.out.mono ?_
      rintro r w1 ⟨rfl, hr1, ho1⟩
      obtain ⟨c0, c1, f0, f1⟩ := hr1.cells
      have HR1 := Lib.hid hr1
      have HO1 := Lib.hid ho1
      clear hr1 ho1
      go_wp2_with fail
      go_ret
      rw [HI3.out]
      exact ⟨rfl, HR1.out, HO1.out⟩
    · have HI3 : Hid (st.int m = (0, s2)) := by unfold Hid; rw [HI2.out, if_neg he]
      have he1 : (s2.err == 0) = false := by simp [he]
      have he2 : (s2.err != 0) = true := by simp [he]
      clear he HI2
      go_enter Try.func44, Try.ntmps44
      go_wp2_with fail
      refine HC.out.mono ?_
      rintro r w1 ⟨rfl, hr1, ho1⟩
      obtain ⟨c0, c1, f0, f1⟩ := hr1.cells
      have HR1 := Lib.hid hr1
      have HO1 := Lib.hid ho1
      clear hr1 ho1
      go_wp2_with fail
      go_ret
      rw [HI3.out]
      exact ⟨rfl, HR1.out, HO1.out⟩

theorem xor_comm_i64 (x y : Int) : bits .xor .i64 x y = bits .xor .i64 y x := by
  show IntKind.i64.wrap ((BitVec.ofInt 64 x ^^^ BitVec.ofInt 64 y).toNat : Int) = IntKind.i64.wrap ((BitVec.ofInt 64 y ^^^ BitVec.ofInt 64 x).toNat : Int)
  rw [BitVec.xor_comm]
theorem xor_comm_u64 (x y : Int) : bits .xor .u64 x y = bits .xor .u64 y x := by
  show IntKind.u64.wrap ((BitVec.ofInt 64 x ^^^ BitVec.ofInt 64 y).toNat : Int) = IntKind.u64.wrap ((BitVec.ofInt 64 y ^^^ BitVec.ofInt 64 x).toNat : Int)
  rw [BitVec.xor_comm]
theorem xor_0_i64 (x : Nat) (hx : x < 9223372036854775808) : bits .xor .i64 (x : Int) 0 = (x : Int) := by
  show IntKind.i64.wrap ((BitVec.ofInt 64 (x : Int) ^^^ BitVec.ofInt 64 0).toNat : Int) = _
  have h2 : (BitVec.ofInt 64 (x : Int)).toNat = x := by
    rw [BitVec.ofInt_natCast, BitVec.toNat_ofNat]; exact Nat.mod_eq_of_lt (by omega)
  have h0 : (BitVec.ofInt 64 0).toNat = 0 := by decide
  rw [BitVec.toNat_xor, h2, h0, Nat.xor_zero, IntKind.wrap_i64]
  omega
theorem xor_0_u64 (x : Nat) (hx : x < 18446744073709551616) : bits .xor .u64 (x : Int) 0 = (x : Int) := by
  show IntKind.u64.wrap ((BitVec.ofInt 64 (x : Int) ^^^ BitVec.ofInt 64 0).toNat : Int) = _
  have h2 : (BitVec.ofInt 64 (x : Int)).toNat = x := by
    rw [BitVec.ofInt_natCast, BitVec.toNat_ofNat]; exact Nat.mod_eq_of_lt (by omega)
  have h0 : (BitVec.ofInt 64 0).toNat = 0 := by decide
  rw [BitVec.toNat_xor, h2, h0, Nat.xor_zero, IntKind.wrap_u64]
  omega
theorem unzig_bits (v : Nat) (hv : v < 2 ^ 64) : bits .xor .i64 ((v : Int) / 2) (wrap64 (-wrap64 (bits .and .u64 (v : Int) 1))) = unzig v := by
  have h64 : (2:Nat) ^ 64 = 18446744073709551616 := rfl
  rw [h64] at hv
  rw [Lib.u64_and1 _ (by omega) (by omega)]
  have e : ((v : Int) / 2) = ((v / 2 : Nat) : Int) := by omega
  rw [e]
  unfold unzig
  split
  · rename_i h
    rw [show wrap64 (-wrap64 ((v : Int) % 2)) = -1 by unfold wrap64; omega, xor_comm_i64, Lib.i64_not _ (by omega)]
  · rename_i h
    rw [show wrap64 (-wrap64 ((v : Int) % 2)) = 0 by unfold wrap64; omega, xor_0_i64 _ (by omega)]
theorem zig_bits (x : Int) (h0 : -9223372036854775808 ≤ x) (h1 : x ≤ 9223372036854775807) : bits .xor .u64 (IntKind.u64.wrap (IntKind.u64.wrap x * 2)) (IntKind.u64.wrap (x / 9223372036854775808)) = ((zig x : Nat) : Int) := by
  unfold zig
  split
  · rename_i h
    have hmax : IntKind.u64.max = 18446744073709551615 := by decide
    have e : IntKind.u64.wrap (x / 9223372036854775808) = IntKind.u64.max := by rw [IntKind.wrap_u64]; omega
    rw [e, xor_comm_u64, Lib.zigzag_neg h0 h]
    unfold Lib.zigzag
    rw [if_neg (by omega)]; omega
  · rename_i h
    have e : IntKind.u64.wrap (x / 9223372036854775808) = 0 := by rw [IntKind.wrap_u64]; omega
    have e2 : IntKind.u64.wrap (IntKind.u64.wrap x * 2) = (((2 * x).toNat : Nat) : Int) := by rw [IntKind.wrap_u64, IntKind.wrap_u64]; omega
    rw [e, e2, xor_0_u64 _ (by omega)]

set_option maxHeartbeats 400000 in
theorem rSigned (g : Nat) (st : Rs) (w : World) (h : Rdr w g st) (hb : st.rest.length ≤ 140737488351232) :
    Calls Try.prog 46 #[.pointer (some ⟨g, 0, none⟩)] w fun r w' => r = .returned (.int .i64 st.signed.1) ∧ Rdr w' g st.signed.2 ∧ Only w w' g := by
  have hc := rNum g st w h hb
  clear h hb
  have hlt := num_lt st
  have HI : Hid (st.signed = (unzig st.num.1, st.num.2)) := rfl
  generalize hq : st.num = p at hc HI hlt
  obtain ⟨v, s2⟩ := p
  clear hq
  simp only at hc HI hlt
  have HC := Lib.hid hc
  have HB := Lib.hid (unzig_bits v hlt)
  clear hc
  go_enter Try.func46, Try.ntmps46
  go_wp2_with fail
  refine HC.out.mono ?_
  rintro r w1 ⟨rfl, hr1, ho1⟩
  have HR1 := Lib.hid hr1
  have HO1 := Lib.hid ho1
  clear hr1 ho1
  go_wp2_with fail
  go_ret
  rw [HI.out]
  exact ⟨ret_v (by rw [← HB.out]; rfl), HR1.out, HO1.out⟩

set_option maxHeartbeats 400000 in
theorem signed_any (x : Int) (w : World) (h0 : -9223372036854775808 ≤ x) (h1 : x ≤ 9223372036854775807) :
    Calls Try.prog 40 #[.int .i64 x] w fun r w' => r = .returned (.string (ofL (numB (zig x)))) ∧ Same w w' := by
  have HZ := Lib.hid (zig_bits x h0 h1)
  have HC := Lib.hid (fun W => num_any (zig x) W (zig_lt x h0 h1))
  clear h0 h1
  go_enter Try.func40, Try.ntmps40
  go_wp2_with fail
  rw [HZ.out]
  refine (HC.out _).mono ?_
  rintro r w1 ⟨rfl, hs⟩
  have HS := Lib.hid hs
  clear hs
  go_wp2_with fail
  go_ret
  exact ⟨rfl, HS.out⟩
end Go.Proofs.Ytjmnncggjgmfdaa
