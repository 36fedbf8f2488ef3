/- pure: a reader's steps; times and counts in bytes -/
import Derived.Test.YtjmnncggjgmfdaaWp1

namespace Go.Proofs.Ytjmnncggjgmfdaa.Ws
set_option linter.unusedVariables false
set_option linter.unusedSimpArgs false

def Rs.num (s : Rs) : Nat × Rs :=
  if s.err = 0 then match numR 0 0 s.rest with
    | .ok (v, n) => (v, ⟨s.rest.drop n, 0⟩)
    | .error e => (0, ⟨s.rest, e⟩)
  else (0, s)

def Rs.fail (s : Rs) (e : Int) : Rs := if s.err = 0 then ⟨s.rest, e⟩ else s

def Rs.int (s : Rs) (most : Int) : Int × Rs :=
  let v := s.num.1
  let t := if most < 0 ∨ most < v then s.num.2.fail 1 else s.num.2
  if t.err = 0 then (v, t) else (0, t)

def unzig (v : Nat) : Int := if v % 2 = 1 then -(v / 2 : Nat) - 1 else (v / 2 : Nat)
def zig (x : Int) : Nat := if x < 0 then (2 * (-(x + 1)) + 1).toNat else (2 * x).toNat
theorem unzig_zig (x : Int) : unzig (zig x) = x := by unfold unzig zig; split <;> split <;> omega
theorem zig_lt (x : Int) (h : -9223372036854775808 ≤ x) (k : x ≤ 9223372036854775807) : zig x < 2 ^ 64 := by unfold zig; split <;> omega

def Rs.signed (s : Rs) : Int × Rs := (unzig s.num.1, s.num.2)

/-- reading what was written -/
theorem num_back (v : Nat) (r : List UInt8) (h : v < 2 ^ 64) : Rs.num ⟨numB v ++ r, 0⟩ = (v, ⟨r, 0⟩) := by
  have := numR_numB v 0 0 r (by omega) (by simpa using h) (by omega)
  simp only [Nat.zero_add, Nat.mul_zero, Nat.pow_zero, Nat.mul_one] at this
  simp [Rs.num, this]
theorem int_back (v : Nat) (m : Int) (r : List UInt8) (h : v < 2 ^ 64) (hm : (v : Int) ≤ m) : Rs.int ⟨numB v ++ r, 0⟩ m = ((v : Int), ⟨r, 0⟩) := by
  have hn : ¬ (m < 0 ∨ m < (v : Int)) := by omega
  simp [Rs.int, num_back v r h, hn]
theorem signed_back (x : Int) (r : List UInt8) (h : -9223372036854775808 ≤ x) (k : x ≤ 9223372036854775807) : Rs.signed ⟨numB (zig x) ++ r, 0⟩ = (x, ⟨r, 0⟩) := by
  simp only [Rs.signed, num_back _ r (zig_lt x h k), unzig_zig]

/-- one if -/
def Rs.intIf (s : Rs) (c : Prop) [Decidable c] (most : Int) : Int × Rs := if c then s.int most else (0, s)

def readT (s : Rs) : Tm × Rs :=
  let x := s.int 3
  let e := x.2.int MC
  let a := e.2.intIf (0 < x.1) MC
  let b := a.2.intIf (1 < x.1) MC
  let c := b.2.intIf (2 < x.1) MC
  if c.2.err = 0 then (⟨e.1, x.1, a.1, b.1, c.1⟩, c.2) else (Tm.zero, c.2)

def Tm.bytes (t : Tm) : List UInt8 :=
  numB t.d.toNat ++ (numB t.e.toNat ++ ((if 0 < t.d then numB t.a.toNat else []) ++ ((if 1 < t.d then numB t.b.toNat else []) ++ (if 2 < t.d then numB t.c.toNat else []))))
def Tm.write (t : Tm) : List UInt8 × Int := if t.check = 0 then (t.bytes, 0) else ([], t.check)

/-- each field is a number of its kind -/
structure Tm.Ok (t : Tm) : Prop where
  e0 : 0 ≤ t.e
  e1 : t.e ≤ 4294967295
  a0 : 0 ≤ t.a
  a1 : t.a ≤ 4294967295
  b0 : 0 ≤ t.b
  b1 : t.b ≤ 4294967295
  c0 : 0 ≤ t.c
  c1 : t.c ≤ 4294967295
  d0 : -9223372036854775808 ≤ t.d
  d1 : t.d ≤ 9223372036854775807

theorem intIf_back (v : Int) (c : Prop) [Decidable c] (r : List UInt8) (h0 : 0 ≤ v) (h1 : v ≤ MC) (hz : ¬ c → v = 0) :
    Rs.intIf ⟨(if c then numB v.toNat else []) ++ r, 0⟩ c MC = (v, ⟨r, 0⟩) := by
  unfold Rs.intIf
  have : MC = 1048576 := rfl
  split
  · rename_i hc
    rw [int_back v.toNat MC r (by omega) (by omega)]
    rw [Int.toNat_of_nonneg h0]
  · rename_i hc; simp [hz hc]

theorem check_ok {t : Tm} (h : t.check = 0) : 0 ≤ t.d ∧ t.d ≤ 3 ∧ t.e ≤ MC ∧ t.a ≤ MC ∧ t.b ≤ MC ∧ t.c ≤ MC ∧ (¬ 0 < t.d → t.a = 0) ∧ (¬ 1 < t.d → t.b = 0) ∧ (¬ 2 < t.d → t.c = 0) := by
  unfold Tm.check at h
  split at h
  · omega
  · split at h
    · omega
    · split at h
      · omega
      · omega

theorem readT_back (t : Tm) (r : List UInt8) (ok : t.Ok) (h : t.check = 0) : readT ⟨t.bytes ++ r, 0⟩ = (t, ⟨r, 0⟩) := by
  obtain ⟨h1, h2, h3, h4, h5, h6, h7, h8, h9⟩ := check_ok h
  have hM : MC = 1048576 := rfl
  have he := ok.e0
  have hd : ((t.d.toNat : Nat) : Int) = t.d := Int.toNat_of_nonneg h1
  unfold readT Tm.bytes
  simp only [List.append_assoc]
  rw [int_back t.d.toNat 3 _ (by omega) (by omega)]
  simp only [hd]
  rw [int_back t.e.toNat MC _ (by omega) (by omega)]
  simp only [Int.toNat_of_nonneg he]
  rw [intIf_back t.a (0 < t.d) _ ok.a0 h4 h7]
  simp only []
  rw [intIf_back t.b (1 < t.d) _ ok.b0 h5 h8]
  simp only []
  rw [intIf_back t.c (2 < t.d) _ ok.c0 h6 h9]
  simp

end Go.Proofs.Ytjmnncggjgmfdaa.Ws
