/- pure base: bytes of numbers, times -/

namespace Go.Proofs.Ytjmnncggjgmfdaa.Ws
set_option linter.unusedVariables false
set_option linter.unusedSimpArgs false

/-- a number's bytes -/
def numB (v : Nat) : List UInt8 :=
  if v < 128 then [UInt8.ofNat v] else UInt8.ofNat (v % 128 + 128) :: numB (v / 128)
termination_by v

/-- what a reader holds: what is left, and what was wrong first -/
structure Rs where
  rest : List UInt8
  err : Int
instance : DecidableEq Rs := fun x y => decidable_of_iff (x.rest = y.rest ∧ x.err = y.err) ⟨fun h => by cases x; cases y; simp_all, fun h => by subst h; simp⟩

/-- a number's bytes read: the value and how many bytes; or what is wrong -/
def numR (n v : Nat) : List UInt8 → Except Int (Nat × Nat)
  | [] => .error 11
  | b :: s =>
    if (n = 9 ∧ 1 < b.toNat) ∨ (0 < n ∧ b.toNat = 0) then .error 6
    else if b.toNat < 128 then .ok (v + b.toNat % 128 * 2 ^ (7 * n), n + 1)
    else numR (n + 1) (v + b.toNat % 128 * 2 ^ (7 * n)) s

structure Tm where
  e : Int
  d : Int
  a : Int
  b : Int
  c : Int
instance : DecidableEq Tm := fun x y => decidable_of_iff (x.e = y.e ∧ x.d = y.d ∧ x.a = y.a ∧ x.b = y.b ∧ x.c = y.c) ⟨fun h => by cases x; cases y; simp_all, fun h => by subst h; simp⟩

def Tm.zero : Tm := ⟨0, 0, 0, 0, 0⟩

def MC : Int := 1048576

def Tm.check (t : Tm) : Int :=
  if t.d < 0 ∨ 3 < t.d then 10
  else if MC < t.e ∨ MC < t.a ∨ MC < t.b ∨ MC < t.c then 1
  else if (t.d < 1 ∧ t.a ≠ 0) ∨ (t.d < 2 ∧ t.b ≠ 0) ∨ (t.d < 3 ∧ t.c ≠ 0) then 6
  else 0

def cmp3 (x y : Int) : Int := if x < y then -1 else if y < x then 1 else 0
def or0 (x y : Int) : Int := if x = 0 then y else x

def Tm.cmp (x y : Tm) : Int := or0 (cmp3 x.d y.d) (or0 (cmp3 x.e y.e) (or0 (cmp3 x.a y.a) (or0 (cmp3 x.b y.b) (cmp3 x.c y.c))))

theorem cmp3_zero {x y : Int} : cmp3 x y = 0 ↔ x = y := by unfold cmp3; split <;> (try split) <;> omega
theorem cmp3_neg {x y : Int} : cmp3 x y < 0 ↔ x < y := by unfold cmp3; split <;> (try split) <;> omega
theorem or0_zero {x y : Int} : or0 x y = 0 ↔ x = 0 ∧ y = 0 := by unfold or0; split <;> omega
theorem or0_neg {x y : Int} : or0 x y < 0 ↔ x < 0 ∨ (x = 0 ∧ y < 0) := by unfold or0; split <;> omega

theorem Tm.ext_iff' {x y : Tm} : x = y ↔ x.d = y.d ∧ x.e = y.e ∧ x.a = y.a ∧ x.b = y.b ∧ x.c = y.c := by
  cases x; cases y; simp; omega

theorem Tm.cmp_zero {x y : Tm} : x.cmp y = 0 ↔ x = y := by
  simp only [Tm.cmp, or0_zero, cmp3_zero, Tm.ext_iff']
theorem Tm.cmp_neg {x y : Tm} : x.cmp y < 0 ↔ x.d < y.d ∨ (x.d = y.d ∧ (x.e < y.e ∨ (x.e = y.e ∧ (x.a < y.a ∨ (x.a = y.a ∧ (x.b < y.b ∨ (x.b = y.b ∧ x.c < y.c))))))) := by
  simp only [Tm.cmp, or0_neg, cmp3_neg, cmp3_zero]

/-- counts by places and times -/
structure Dl where
  l : Int
  t : Tm
  n : Int
instance : DecidableEq Dl := fun x y => decidable_of_iff (x.l = y.l ∧ x.t = y.t ∧ x.n = y.n) ⟨fun h => by cases x; cases y; simp_all, fun h => by subst h; simp⟩

def Dl.cmp (x y : Dl) : Int := or0 (cmp3 x.l y.l) (x.t.cmp y.t)
def Dl.key (x : Dl) : Int × Tm := (x.l, x.t)
theorem Dl.cmp_zero {x y : Dl} : x.cmp y = 0 ↔ x.key = y.key := by
  simp only [Dl.cmp, or0_zero, cmp3_zero, Tm.cmp_zero, Dl.key, Prod.mk.injEq]

theorem Dl.cmp_neg {x y : Dl} : x.cmp y < 0 ↔ x.l < y.l ∨ (x.l = y.l ∧ x.t.cmp y.t < 0) := by
  simp only [Dl.cmp, or0_neg, cmp3_neg, cmp3_zero]
theorem Tm.cmp_trans {x y z : Tm} (h : x.cmp y < 0) (k : y.cmp z < 0) : x.cmp z < 0 := by
  rw [Tm.cmp_neg] at *; omega
theorem Tm.cmp_asymm {x y : Tm} (h : x.cmp y < 0) : ¬ y.cmp x < 0 := by
  rw [Tm.cmp_neg] at *; omega
theorem Tm.cmp_total {x y : Tm} (h : ¬ x.cmp y < 0) (k : ¬ y.cmp x < 0) : x = y := by
  rw [Tm.cmp_neg] at *; rw [Tm.ext_iff']; omega
theorem Dl.cmp_trans {x y z : Dl} (h : x.cmp y < 0) (k : y.cmp z < 0) : x.cmp z < 0 := by
  rw [Dl.cmp_neg] at *
  rcases h with h | ⟨h, h'⟩ <;> rcases k with k | ⟨k, k'⟩
  · left; omega
  · left; omega
  · left; omega
  · right; exact ⟨by omega, Tm.cmp_trans h' k'⟩
theorem Dl.cmp_total {x y : Dl} (h : ¬ x.cmp y < 0) (k : ¬ y.cmp x < 0) : x.key = y.key := by
  rw [Dl.cmp_neg] at *
  have : x.l = y.l := by omega
  have h' : ¬ x.t.cmp y.t < 0 := fun q => h (.inr ⟨this, q⟩)
  have k' : ¬ y.t.cmp x.t < 0 := fun q => k (.inr ⟨this.symm, q⟩)
  simp [Dl.key, this, Tm.cmp_total h' k']
theorem Dl.cmp_asymm {x y : Dl} (h : x.cmp y < 0) : ¬ y.cmp x < 0 := by
  rw [Dl.cmp_neg] at *
  rintro (k | ⟨k, k'⟩) <;> rcases h with h | ⟨h, h'⟩
  · omega
  · omega
  · omega
  · exact Tm.cmp_asymm h' k'
theorem Dl.cmp_key {x y x' y' : Dl} (h : x.key = x'.key) (k : y.key = y'.key) : x.cmp y = x'.cmp y' := by
  simp only [Dl.key, Prod.mk.injEq] at h k
  simp only [Dl.cmp, h.1, h.2, k.1, k.2]

/-- counted into a table -/
def upd : List Dl → Dl → List Dl
  | [], d => [d]
  | x :: xs, d => if x.key = d.key then { x with n := x.n + d.n } :: xs else x :: upd xs d
/-- counted into a list in order -/
def ins : List Dl → Dl → List Dl
  | [], d => [d]
  | x :: xs, d => if x.cmp d = 0 then { x with n := x.n + d.n } :: xs else if x.cmp d < 0 then x :: ins xs d else d :: x :: xs

abbrev Srt (l : List Dl) : Prop := l.Pairwise fun x y => x.cmp y < 0
abbrev Dist (l : List Dl) : Prop := l.Pairwise fun x y => x.key ≠ y.key

theorem key_add (x d : Dl) : ({ x with n := x.n + d.n } : Dl).key = x.key := rfl

theorem ins_keys (l : List Dl) (d x : Dl) (h : x ∈ ins l d) : x.key = d.key ∨ ∃ y ∈ l, y.key = x.key := by
  induction l with
  | nil => simp only [ins, List.mem_singleton] at h; subst h; exact .inl rfl
  | cons a l ih =>
    simp only [ins] at h
    split at h
    · rcases List.mem_cons.1 h with rfl | h
      · exact .inr ⟨a, List.mem_cons_self, rfl⟩
      · exact .inr ⟨x, List.mem_cons_of_mem _ h, rfl⟩
    · split at h
      · rcases List.mem_cons.1 h with rfl | h
        · exact .inr ⟨x, List.mem_cons_self, rfl⟩
        · rcases ih h with h | ⟨y, hy, hk⟩
          · exact .inl h
          · exact .inr ⟨y, List.mem_cons_of_mem _ hy, hk⟩
      · rcases List.mem_cons.1 h with rfl | h
        · exact .inl rfl
        · exact .inr ⟨x, h, rfl⟩

theorem ins_srt (l : List Dl) (d : Dl) (h : Srt l) : Srt (ins l d) := by
  induction l with
  | nil => simp [ins, Srt]
  | cons a l ih =>
    have ⟨h1, h2⟩ := List.pairwise_cons.1 h
    simp only [ins]
    split
    · refine List.pairwise_cons.2 ⟨fun y hy => ?_, h2⟩
      exact h1 y hy
    · split
      · rename_i hz hn
        refine List.pairwise_cons.2 ⟨fun y hy => ?_, ih h2⟩
        rcases ins_keys l d y hy with hk | ⟨z, hz, hk⟩
        · rw [Dl.cmp_key (x' := a) (y' := d) rfl hk]; exact hn
        · rw [← Dl.cmp_key (x := a) (y := z) rfl hk]; exact h1 z hz
      · rename_i hz hn
        have hd : d.cmp a < 0 := by
          rcases Classical.em (d.cmp a < 0) with k | k
          · exact k
          · exact absurd (Dl.cmp_zero.2 (Dl.cmp_total hn k)) hz
        refine List.pairwise_cons.2 ⟨fun y hy => ?_, h⟩
        rcases List.mem_cons.1 hy with rfl | hy
        · exact hd
        · exact Dl.cmp_trans hd (h1 y hy)

theorem upd_none (l : List Dl) (d : Dl) (h : ∀ x ∈ l, x.key ≠ d.key) : upd l d = l ++ [d] := by
  induction l with
  | nil => rfl
  | cons a l ih => simp only [upd, if_neg (h a List.mem_cons_self), List.cons_append]; rw [ih fun x hx => h x (List.mem_cons_of_mem _ hx)]

theorem upd_split (l r : List Dl) (x d : Dl) (h : ∀ y ∈ l, y.key ≠ d.key) (hx : x.key = d.key) : upd (l ++ x :: r) d = l ++ { x with n := x.n + d.n } :: r := by
  induction l with
  | nil => simp [upd, hx]
  | cons a l ih => simp only [List.cons_append, upd, if_neg (h a List.mem_cons_self)]; rw [ih fun x hx => h x (List.mem_cons_of_mem _ hx)]

theorem ins_perm_none (l : List Dl) (d : Dl) (h : ∀ x ∈ l, x.key ≠ d.key) : (ins l d).Perm (d :: l) := by
  induction l with
  | nil => simp [ins]
  | cons a l ih =>
    simp only [ins]
    rw [if_neg (fun q => h a List.mem_cons_self (Dl.cmp_zero.1 q))]
    split
    · exact ((ih fun x hx => h x (List.mem_cons_of_mem _ hx)).cons a).trans (List.Perm.swap _ _ _)
    · exact List.Perm.refl _

theorem ins_split (l r : List Dl) (x d : Dl) (hs : Srt (l ++ x :: r)) (hx : x.key = d.key) : ins (l ++ x :: r) d = l ++ { x with n := x.n + d.n } :: r := by
  induction l with
  | nil => simp [ins, Dl.cmp_zero.2 hx]
  | cons a l ih =>
    have ⟨h1, h2⟩ := List.pairwise_cons.1 hs
    have ha : a.cmp d < 0 := by rw [← Dl.cmp_key (x := a) (y := x) rfl hx]; exact h1 x (by simp)
    simp only [List.cons_append, ins]
    rw [if_neg (by omega), if_pos ha, ih h2]

theorem srt_dist {l : List Dl} (h : Srt l) : Dist l := h.imp fun h q => by have := Dl.cmp_zero.2 q; omega

theorem dist_perm {l m : List Dl} (h : Dist l) (p : l.Perm m) : Dist m := (p.pairwise_iff (fun {x y} (h : x.key ≠ y.key) => Ne.symm h)).1 h

/-- The table and the list in order hold the same. -/
theorem upd_ins (M A : List Dl) (d : Dl) (p : M.Perm A) (hs : Srt A) : (upd M d).Perm (ins A d) := by
  by_cases hx : ∃ x ∈ A, x.key = d.key
  · obtain ⟨x, hxA, hk⟩ := hx
    obtain ⟨l, r, rfl⟩ := List.append_of_mem hxA
    rw [ins_split l r x d hs hk]
    obtain ⟨l', r', rfl⟩ := List.append_of_mem (p.mem_iff.2 hxA)
    have hd : Dist (l' ++ x :: r') := dist_perm (srt_dist hs) p.symm
    have hl : ∀ y ∈ l', y.key ≠ d.key := fun y hy => by
      have := (List.pairwise_append.1 hd).2.2 y hy x List.mem_cons_self
      rwa [hk] at this
    rw [upd_split l' r' x d hl hk]
    have q : (l' ++ r').Perm (l ++ r) := by
      have := (List.perm_middle.symm.trans p).trans List.perm_middle
      exact this.cons_inv
    exact List.perm_middle.trans ((q.cons _).trans List.perm_middle.symm)
  · have hA : ∀ x ∈ A, x.key ≠ d.key := fun x h k => hx ⟨x, h, k⟩
    have hM : ∀ x ∈ M, x.key ≠ d.key := fun x h => hA x (p.mem_iff.1 h)
    rw [upd_none M d hM]
    exact (List.perm_append_comm.trans (p.cons d)).trans (ins_perm_none A d hA).symm

theorem upds_ins (l : List Dl) : ∀ M A, M.Perm A → Srt A → (l.foldl upd M).Perm (l.foldl ins A) ∧ Srt (l.foldl ins A) := by
  induction l with
  | nil => exact fun M A p h => ⟨p, h⟩
  | cons d l ih => exact fun M A p h => ih _ _ (upd_ins M A d p h) (ins_srt A d h)

/-- What is sorted, and a permutation, is the list in order. -/
theorem srt_eq (D A : List Dl) (p : D.Perm A) (hA : Srt A) (hD : D.Pairwise fun x y => ¬ y.cmp x < 0) : D = A := by
  have hd : Dist D := dist_perm (srt_dist hA) p.symm
  have hD' : Srt D := by
    refine (hD.and hd).imp fun {x y} ⟨h, k⟩ => ?_
    rcases Classical.em (x.cmp y < 0) with q | q
    · exact q
    · exact absurd (Dl.cmp_total q h) k
  exact List.Perm.eq_of_pairwise (le := fun x y => x.cmp y < 0) (fun a b _ _ h k => absurd k (Dl.cmp_asymm h)) hD' hA p

theorem numR_numB (v : Nat) : ∀ (n acc : Nat) (r : List UInt8), n ≤ 9 → v < 2 ^ (64 - 7 * n) → (0 < n → 0 < v) →
    numR n acc (numB v ++ r) = .ok (acc + v * 2 ^ (7 * n), n + (numB v).length) := by
  induction v using Nat.strongRecOn with
  | ind v ih =>
    intro n acc r hn hv h0
    have h9 : n = 9 → v < 2 := by rintro rfl; simpa using hv
    unfold numB
    split
    · rename_i hlt
      have hb : (UInt8.ofNat v).toNat = v := by simp; omega
      simp only [List.singleton_append, numR, hb]
      rw [if_neg (by rintro (⟨h, k⟩ | ⟨h, k⟩); · have := h9 h; omega
                     · have := h0 h; omega), if_pos hlt, Nat.mod_eq_of_lt hlt]
      rfl
    · rename_i hge
      have hb : (UInt8.ofNat (v % 128 + 128)).toNat = v % 128 + 128 := by simp; omega
      have hn8 : n ≤ 8 := by
        rcases Nat.lt_or_ge n 9 with h | h
        · omega
        · have := h9 (by omega); omega
      simp only [List.cons_append, numR, hb]
      rw [if_neg (by omega), if_neg (by omega)]
      have e : (v % 128 + 128) % 128 = v % 128 := by omega
      rw [e, ih (v / 128) (by omega) (n + 1) _ r (by omega) ?_ (by omega)]
      · congr 1
        have e2 : 2 ^ (7 * (n + 1)) = 128 * 2 ^ (7 * n) := by rw [show 7 * (n + 1) = 7 + 7 * n by omega, Nat.pow_add]
        have e3 : v = 128 * (v / 128) + v % 128 := by omega
        refine Prod.ext ?_ ?_
        · show acc + v % 128 * 2 ^ (7 * n) + v / 128 * 2 ^ (7 * (n + 1)) = acc + v * 2 ^ (7 * n)
          rw [e2]
          conv => rhs; rw [e3]
          rw [Nat.add_mul, Nat.mul_comm 128 (v / 128), Nat.mul_assoc]
          omega
        · show n + 1 + (numB (v / 128)).length = n + ((numB (v / 128)).length + 1); omega
      · have e2 : 64 - 7 * n = (64 - 7 * (n + 1)) + 7 := by omega
        rw [e2, Nat.pow_add] at hv
        have : (2:Nat) ^ 7 = 128 := rfl
        rw [this] at hv
        omega

theorem numB_len (v : Nat) : ∀ n, v < 2 ^ (7 * n) → 0 < n → (numB v).length ≤ n := by
  induction v using Nat.strongRecOn with
  | ind v ih =>
    intro n hv hn
    unfold numB
    split
    · simp; omega
    · simp only [List.length_cons]
      obtain ⟨m, rfl⟩ : ∃ m, n = m + 1 := ⟨n - 1, by omega⟩
      rw [show 7 * (m + 1) = 7 * m + 7 by omega, Nat.pow_add] at hv
      have h7 : (2:Nat) ^ 7 = 128 := rfl
      rw [h7] at hv
      rcases Nat.eq_zero_or_pos m with rfl | hm
      · simp at hv; omega
      · have := ih (v / 128) (by omega) m (by omega) hm
        omega

theorem numB_pos (v : Nat) : 0 < (numB v).length := by unfold numB; split <;> simp

end Go.Proofs.Ytjmnncggjgmfdaa.Ws
