/- pure: counts: folded, in bytes, read -/
import Derived.Test.YtjmnncggjgmfdaaWp2

namespace Go.Proofs.Ytjmnncggjgmfdaa.Ws
set_option linter.unusedVariables false
set_option linter.unusedSimpArgs false

def okN (n : Int) : Prop := -1099511627776 ≤ n ∧ n ≤ 1099511627776
instance (n : Int) : Decidable (okN n) := by unfold okN; infer_instance

def Dl.check (x : Dl) : Int := if x.l < 0 ∨ 1000 < x.l then 1 else if x.t.check = 0 then (if okN x.n then 0 else 9) else x.t.check

/-- what is wrong first -/
def errs : List Dl → Int
  | [] => 0
  | x :: xs => if x.check = 0 then errs xs else x.check

def sums (l : List Dl) : List Dl := l.foldl ins []
def live (l : List Dl) : List Dl := l.filter fun x => x.n ≠ 0

def fold (l : List Dl) : List Dl × Int :=
  if 4096 < l.length then ([], 7)
  else if errs l = 0 then
    if ∀ x ∈ sums l, okN x.n then (if 256 < (live (sums l)).length then ([], 7) else (live (sums l), 0)) else ([], 9)
  else ([], errs l)

def right (l : List Dl) : Bool := decide ((fold l).2 = 0 ∧ (fold l).1 = l)

def Dl.bytes (x : Dl) : List UInt8 := numB x.l.toNat ++ (x.t.write.1 ++ numB (zig x.n))
def bytesC : List Dl → List UInt8
  | [] => []
  | x :: xs => x.bytes ++ bytesC xs
def writeC (l : List Dl) : List UInt8 × Int := if right l then (numB l.length ++ bytesC l, 0) else ([], 6)

def readD (s : Rs) : Dl × Rs :=
  let l := s.int 1000
  let t := readT l.2
  let n := t.2.signed
  (⟨l.1, t.1, n.1⟩, n.2)
def readN : Nat → Rs → List Dl × Rs
  | 0, s => ([], s)
  | k + 1, s => let d := readD s; let r := readN k d.2; (d.1 :: r.1, r.2)
def readC (s : Rs) : List Dl × Rs :=
  let n := s.int 256
  let r := readN n.1.toNat n.2
  if r.2.err = 0 then (if right r.1 then r else ([], ⟨r.2.rest, 6⟩)) else ([], r.2)

theorem errs_zero {l : List Dl} (h : errs l = 0) : ∀ x ∈ l, x.check = 0 := by
  induction l with
  | nil => simp
  | cons a l ih =>
    simp only [errs] at h
    split at h
    · rename_i h0
      intro x hx
      rcases List.mem_cons.1 hx with rfl | hx
      · exact h0
      · exact ih h x hx
    · rename_i h0; exact absurd h h0

theorem check_zero {x : Dl} (h : x.check = 0) : 0 ≤ x.l ∧ x.l ≤ 1000 ∧ x.t.check = 0 ∧ okN x.n := by
  unfold Dl.check at h
  split at h
  · omega
  · split at h
    · split at h
      · rename_i h1 h2 h3; exact ⟨by omega, by omega, h2, h3⟩
      · omega
    · rename_i h1 h2; exact absurd h h2

structure Dl.Ok (x : Dl) : Prop where
  t : x.t.Ok
  l0 : -9223372036854775808 ≤ x.l
  l1 : x.l ≤ 9223372036854775807
  n0 : -9223372036854775808 ≤ x.n
  n1 : x.n ≤ 9223372036854775807

theorem readD_back (x : Dl) (r : List UInt8) (ok : x.Ok) (h : x.check = 0) : readD ⟨x.bytes ++ r, 0⟩ = (x, ⟨r, 0⟩) := by
  obtain ⟨h1, h2, h3, h4⟩ := check_zero h
  have hl : ((x.l.toNat : Nat) : Int) = x.l := Int.toNat_of_nonneg h1
  unfold readD Dl.bytes
  simp only [List.append_assoc, Tm.write, h3, if_true]
  rw [int_back x.l.toNat 1000 _ (by omega) (by omega)]
  simp only [hl]
  rw [readT_back x.t _ ok.t h3]
  simp only []
  rw [signed_back x.n r ok.n0 ok.n1]

theorem readN_back (l : List Dl) (r : List UInt8) (ok : ∀ x ∈ l, x.Ok) (h : ∀ x ∈ l, x.check = 0) : readN l.length ⟨bytesC l ++ r, 0⟩ = (l, ⟨r, 0⟩) := by
  induction l with
  | nil => rfl
  | cons a l ih =>
    simp only [bytesC, List.length_cons, readN, List.append_assoc]
    rw [readD_back a _ (ok a List.mem_cons_self) (h a List.mem_cons_self)]
    simp only []
    rw [ih (fun x hx => ok x (List.mem_cons_of_mem _ hx)) (fun x hx => h x (List.mem_cons_of_mem _ hx))]

theorem fold_len (l : List Dl) : (fold l).1.length ≤ 256 := by
  unfold fold; split
  · simp
  · split
    · split
      · split
        · simp
        · simp; omega
      · simp
    · simp

theorem fold_errs {l : List Dl} (h : (fold l).2 = 0) : errs l = 0 := by
  unfold fold at h
  by_cases h1 : 4096 < l.length
  · simp [h1] at h
  · by_cases h2 : errs l = 0
    · exact h2
    · simp [h1, h2] at h

theorem readC_back (l : List Dl) (r : List UInt8) (ok : ∀ x ∈ l, x.Ok) (h : right l = true) : readC ⟨(writeC l).1 ++ r, 0⟩ = (l, ⟨r, 0⟩) := by
  have hr := h
  simp only [right, decide_eq_true_eq] at h
  have hlen : l.length ≤ 256 := by have := fold_len l; rwa [h.2] at this
  simp only [readC, writeC, hr, if_true, List.append_assoc]
  rw [int_back l.length 256 _ (by omega) (by omega)]
  simp only [Int.toNat_natCast]
  rw [readN_back l r ok (errs_zero (fold_errs h.1))]
  simp [hr]

end Go.Proofs.Ytjmnncggjgmfdaa.Ws
