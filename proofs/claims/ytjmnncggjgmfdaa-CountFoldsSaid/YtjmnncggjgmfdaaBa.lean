/- Words used by all walks of this seat: bytes as lists, blocks, sums of bits. -/
import Derived.WalkKit
import Derived.KernelRfl
import Derived.Deep.QuietTactic
import Derived.BigQuiet
import Derived.BigRegion
import Derived.BigGuardPart
import Derived.Outline
import Derived.Lib.Hide
import Derived.Deep.Light
import Derived.Maps.AppendAt
import Derived.Test.YtjmnncggjgmfdaaProg
import Derived.Test.YtjmnncggjgmfdaaWp2
namespace Go.Proofs.Ytjmnncggjgmfdaa
open Go.RowKit Ws
set_option linter.unusedVariables false
set_option linter.unusedSimpArgs false

theorem size_toList (s : ByteArray) : s.data.toList.length = s.size := Array.length_toList
/-- bytes as a string -/
def ofL (l : List UInt8) : ByteArray := ⟨l.toArray⟩
theorem ofL_toList (l : List UInt8) : (ofL l).data.toList = l := rfl
theorem ofL_of (s : ByteArray) : ofL s.data.toList = s := by cases s; rfl
theorem ofL_size (l : List UInt8) : (ofL l).size = l.length := rfl
theorem ofL_append (a b : List UInt8) : ofL a ++ ofL b = ofL (a ++ b) := by
  apply ByteArray.ext; simp [ofL]
theorem drop_cons (s : ByteArray) (k : Nat) (h : k < s.size) : s.data.toList.drop k = s[k] :: s.data.toList.drop (k + 1) := by
  rw [List.drop_eq_getElem_cons (by simpa using h)]; rfl
theorem ofL_extract (s : ByteArray) (n : Nat) : s.extract n s.size = ofL (s.data.toList.drop n) := by
  apply ByteArray.ext
  simp only [ofL, ByteArray.data_extract]
  apply Array.ext'
  simp
  exact List.take_of_length_le (by rw [List.length_drop]; exact Nat.le_of_eq (by rw [size_toList]))

theorem pow_cast (k : Nat) : ((2 ^ k : Nat) : Int) = 2 ^ k := by simp
theorem num_step (V b k : Nat) (hV : V < 2 ^ (7 * k)) (hk : k ≤ 9) (hb : b < 256) (h9 : k = 9 → b ≤ 1) :
    bits .or .u64 (V : Int) (IntKind.u64.wrap (IntKind.u64.wrap (bits .andNot .u8 (b : Int) 128) * 2 ^ (7 * k))) = ((V + b % 128 * 2 ^ (7 * k) : Nat) : Int) := by
  have e1 : bits .andNot .u8 (b : Int) 128 = ((b % 128 : Nat) : Int) := by
    rw [show (128 : Int) = ((128 : Nat) : Int) by rfl, u8_andNot_nat b 128 hb (by omega)]
    congr 1
    exact Nat.and_two_pow_sub_one_eq_mod b 7
  have hm : b % 128 < 128 := Nat.mod_lt _ (by omega)
  have hp : b % 128 * 2 ^ (7 * k) < 18446744073709551616 := by
    rcases Nat.lt_or_ge k 9 with h | h
    · have h2 : (2:Nat) ^ (7 * k) ≤ 2 ^ 56 := Nat.pow_le_pow_right (by omega) (by omega)
      have : b % 128 * 2 ^ (7 * k) ≤ 127 * 2 ^ 56 := Nat.mul_le_mul (by omega) h2
      omega
    · obtain rfl : k = 9 := by omega
      have := h9 rfl
      have : b % 128 ≤ 1 := by omega
      have : b % 128 * 2 ^ (7 * 9) ≤ 1 * 2 ^ (7 * 9) := Nat.mul_le_mul_right _ this
      omega
  have hV2 : V < 18446744073709551616 := by
    have : (2:Nat) ^ (7 * k) ≤ 2 ^ 63 := Nat.pow_le_pow_right (by omega) (by omega)
    omega
  have e2 : IntKind.u64.wrap (((b % 128 : Nat) : Int)) = ((b % 128 : Nat) : Int) := by simp [IntKind.wrap, IntKind.bits, IntKind.signed]; omega
  rw [e1, e2]
  have e3 : ((b % 128 : Nat) : Int) * 2 ^ (7 * k) = ((b % 128 * 2 ^ (7 * k) : Nat) : Int) := by rw [Int.natCast_mul, pow_cast]
  rw [e3]
  have e4 : IntKind.u64.wrap (((b % 128 * 2 ^ (7 * k) : Nat) : Int)) = ((b % 128 * 2 ^ (7 * k) : Nat) : Int) := by
    generalize b % 128 * 2 ^ (7 * k) = x at hp
    simp [IntKind.wrap, IntKind.bits, IntKind.signed]; omega
  rw [e4, u64_or_nat V _ hV2 hp]
  congr 1
  have := Nat.two_pow_add_eq_or_of_lt (i := 7 * k) hV (b % 128)
  rw [Nat.or_comm, Nat.mul_comm (b % 128), ← this, Nat.add_comm]
theorem num_bound (V b k : Nat) (hV : V < 2 ^ (7 * k)) : V + b % 128 * 2 ^ (7 * k) < 2 ^ (7 * (k + 1)) := by
  rw [show 7 * (k + 1) = 7 + 7 * k by omega, Nat.pow_add]
  have hm : b % 128 + 1 ≤ 2 ^ 7 := Nat.mod_lt _ (by omega)
  have := Nat.mul_le_mul_right (2 ^ (7 * k)) hm
  rw [Nat.add_mul] at this
  omega

theorem ret_int {k : IntKind} {a b : Int} (h : a = b) : Ending.returned (.int k a) = .returned (.int k b) := by rw [h]
theorem ret_bool {a b : Bool} (h : a = b) : Ending.returned (.bool a) = .returned (.bool b) := by rw [h]
theorem ret_v {a b : Value} (h : a = b) : Ending.returned a = .returned b := by rw [h]

/-! ### A block that is known whole -/
/-- Block g is just these cells, of type t. -/
def Bk (w : World) (g : Nat) (t : TypeId) (cs : Array Value) : Prop := w.heap[g]? = some (.cells cs t (0, 0))
/-- Nothing but block g has turned, and what is new. -/
abbrev Only (w w' : World) (g : Nat) : Prop := w.grownBy w' (some g)
/-- Nothing has turned, but for what is new. -/
abbrev Same (w w' : World) : Prop := Below w.heap.size w w'

section
variable {w w' : World} {g : Nat} {t : TypeId} {cs : Array Value}
theorem Bk.lt (h : Bk w g t cs) : g < w.heap.size := by
  rcases Nat.lt_or_ge g w.heap.size with hlt | hge
  · exact hlt
  · unfold Bk at h; rw [Array.getElem?_eq_none hge] at h; cases h
theorem Bk.cell (h : Bk w g t cs) (i : Nat) (v : Value) (hv : cs[i]? = some v) : w.cell? ⟨g, i, none⟩ = some v := (cell_of_row w g i cs t (0, 0) h).trans hv
theorem Bk.frozen (h : Bk w g t cs) (i : Nat) : w.frozen? ⟨g, i, none⟩ = false := by unfold Bk at h; simp [World.frozen?, h]
theorem Bk.new (w : World) (t : TypeId) (cs : Array Value) : Bk (w.alloc (.cells cs t)) w.heap.size t cs := heap_alloc_new w _
theorem Bk.drew (h : Bk w g t cs) : Bk w.drew g t cs := h
theorem Bk.drewN (h : Bk w g t cs) (n : Nat) : Bk (w.drewN n) g t cs := h
theorem Bk.alloc (h : Bk w g t cs) (o : Obj) : Bk (w.alloc o) g t cs := (Below.heap_alloc w o g h.lt).trans h
theorem Bk.set (h : Bk w g t cs) (i : Nat) (u : Value) : Bk (w.setCell ⟨g, i, none⟩ u) g t (cs.setIfInBounds i u) := by
  unfold Bk at h ⊢; simp [World.setCell, Array.getElem?_modify, h]
theorem Bk.far (h : Bk w g t cs) {p : Addr} (hp : g ≠ p.block) (u : Value) : Bk (w.setCell p u) g t cs := (Below.heap_setCell w p u g hp).trans h
theorem Bk.same (h : Bk w g t cs) (hb : Same w w') : Bk w' g t cs := (hb.block g h.lt).trans h
theorem Bk.below {B : Nat} (h : Bk w g t cs) (hb : Below B w w') (hg : g < B) : Bk w' g t cs := (hb.block g hg).trans h
theorem Bk.only (h : Bk w g t cs) {k : Nat} (hb : Only w w' k) (hg : g ≠ k) : Bk w' g t cs := (hb.block g h.lt (fun e => hg (Option.some.inj e))).trans h
theorem Bk.grown (h : Bk w g t cs) {k : Option Nat} (hb : w.grownBy w' k) (hg : some g ≠ k) : Bk w' g t cs := (hb.block g h.lt hg).trans h
theorem Bk.ne (h : Bk w g t cs) {g' : Nat} {t' : TypeId} {cs' : Array Value} (h' : Bk w g' t' cs') (hne : t ≠ t') : g ≠ g' := by
  rintro rfl
  unfold Bk at h h'
  rw [h] at h'
  injection h' with h'
  injection h' with _ ht
  exact hne ht
end

theorem Only.refl (w : World) (g : Nat) : Only w w g := World.grownBy.refl w _
theorem Only.trans {a b c : World} {g : Nat} (h : Only a b g) (k : Only b c g) : Only a c g := World.grownBy.trans h k
theorem Only.drew {a b : World} {g : Nat} (h : Only a b g) : Only a b.drew g := ⟨h.os, h.tape, h.output, h.size, h.block⟩
theorem Only.drewN {a b : World} {g : Nat} (h : Only a b g) (n : Nat) : Only a (b.drewN n) g := ⟨h.os, h.tape, h.output, h.size, h.block⟩
theorem Only.alloc {a b : World} {g : Nat} (h : Only a b g) (o : Obj) : Only a (b.alloc o) g :=
  ⟨h.os, h.tape, h.output, Nat.le_trans h.size (by simp), fun i hi hne => (Below.heap_alloc b o i (Nat.lt_of_lt_of_le hi h.size)).trans (h.block i hi hne)⟩
theorem Only.set {a b : World} {g : Nat} (h : Only a b g) {p : Addr} (hp : p.block = g ∨ a.heap.size ≤ p.block) (u : Value) : Only a (b.setCell p u) g :=
  ⟨h.os, h.tape, h.output, by simpa [World.setCell] using h.size, fun i hi hne => (Below.heap_setCell b p u i (by
    rintro rfl
    rcases hp with hp | hp
    · exact hne (by rw [hp])
    · omega)).trans (h.block i hi hne)⟩
theorem Only.setg {a b : World} {g : Nat} (h : Only a b g) (i : Nat) (u : Value) : Only a (b.setCell ⟨g, i, none⟩ u) g := h.set (.inl rfl) u
theorem Only.same {a b c : World} {g : Nat} (h : Only a b g) (k : Same b c) : Only a c g :=
  ⟨k.os.trans h.os, k.tape.trans h.tape, k.output.trans h.output, Nat.le_trans h.size k.size, fun i hi hne => (k.block i (Nat.lt_of_lt_of_le hi h.size)).trans (h.block i hi hne)⟩
/-- What turned a block of our own alone has turned nothing. -/
theorem Same.only {a b c : World} {g : Nat} (h : Same a b) (k : Only b c g) (hg : a.heap.size ≤ g) : Same a c :=
  h.trans ⟨k.os, k.tape, k.output, k.size, fun i hi => k.block i (Nat.lt_of_lt_of_le hi h.size) (fun e => by have := Option.some.inj e; omega)⟩
theorem Same.refl (w : World) : Same w w := Below.refl _ _
theorem Same.trans {a b c : World} (h : Same a b) (k : Same b c) : Same a c := Below.trans h (k.mono h.size)
theorem Same.alloc {a b : World} (h : Same a b) (o : Obj) : Same a (b.alloc o) := Below.alloc h h.size o
theorem Same.drewN {a b : World} (h : Same a b) (n : Nat) : Same a (b.drewN n) := ⟨h.os, h.tape, h.output, h.size, h.block⟩
theorem Same.set {a b : World} (h : Same a b) {p : Addr} (hp : a.heap.size ≤ p.block) (u : Value) : Same a (b.setCell p u) := Below.setCell h hp u
theorem Same.cell {a b : World} (h : Same a b) {p : Addr} {v : Value} (hv : a.cell? p = some v) : b.cell? p = some v := (Below.cell h (World.block_lt_of_cell? a p hv)).trans hv


/-! ### A row of the call's own, and a slice that is read: elements of k cells each -/
section
variable {α : Type} {w w' : World} {B : Nat} {e : TypeId} {k : Nat} {enc : α → List Value} {v : Value} {xs : List α}
/-- v is a row of the call's own (from block B on): it holds xs. -/
def Own (w : World) (B : Nat) (e : TypeId) (k : Nat) (enc : α → List Value) (v : Value) (xs : List α) : Prop := w.ownsRow B e k v xs.length (xs.flatMap enc)
/-- v is a slice that reads as xs. -/
def Rd (w : World) (k : Nat) (enc : α → List Value) (v : Value) (xs : List α) : Prop :=
  ∃ A c, v = .slice A xs.length c ∧ xs.length ≤ c ∧ (0 < xs.length → ∃ ad : Addr, A = some ad ∧ ad.block < w.heap.size ∧ ∀ j u, (xs.flatMap enc)[j]? = some u → w.cell? (ad.add j) = some u)

theorem flat_len (hk : ∀ x, (enc x).length = k) : ∀ xs : List α, (xs.flatMap enc).length = xs.length * k
  | [] => by simp
  | x :: xs => by simp [flat_len hk xs, hk, Nat.succ_mul]; omega
theorem flat_get (hk : ∀ x, (enc x).length = k) : ∀ (xs : List α) (i : Nat) (x : α) (j : Nat) (u : Value), xs[i]? = some x → (enc x)[j]? = some u → (xs.flatMap enc)[i * k + j]? = some u
  | [], i, x, j, u, h, _ => by simp at h
  | y :: xs, 0, x, j, u, h, hj => by
    simp at h; subst h
    have : j < (enc y).length := (List.getElem?_eq_some_iff.1 hj).1
    simp [List.getElem?_append_left this, hj]
  | y :: xs, i + 1, x, j, u, h, hj => by
    have := flat_get hk xs i x j u (by simpa using h) hj
    rw [List.flatMap_cons, List.getElem?_append_right (by rw [hk, Nat.succ_mul]; omega), hk, Nat.succ_mul]
    rw [show i * k + k + j - k = i * k + j by omega]; exact this

theorem Own.nil (w : World) (B : Nat) (e : TypeId) (k : Nat) (enc : α → List Value) : Own w B e k enc (.slice none 0 0) [] := ⟨by simp, .inl ⟨rfl, rfl⟩⟩
theorem Own.block (h : Own w B e k enc v xs) {g : Nat} (hg : v.ownBlock = some g) : B ≤ g ∧ g < w.heap.size := World.ownsRow.lt h g hg
theorem Own.grown (h : Own w B e k enc v xs) {row : Option Nat} (hg : w.grownBy w' row) (hne : v.ownBlock = none ∨ v.ownBlock ≠ row) : Own w' B e k enc v xs := World.ownsRow.kept h hg hne
theorem Own.same (h : Own w B e k enc v xs) (hs : Same w w') : Own w' B e k enc v xs :=
  h.grown (row := none) ⟨hs.os, hs.tape, hs.output, hs.size, fun i hi _ => hs.block i hi⟩ (by cases v.ownBlock <;> simp)
theorem Own.only (h : Own w B e k enc v xs) {g : Nat} (hs : Only w w' g) (hg : g < B) : Own w' B e k enc v xs :=
  h.grown hs (by
    cases hv : v.ownBlock with
    | none => exact .inl rfl
    | some b => have := (h.block hv).1; exact .inr (fun q => by have := Option.some.inj q; omega))
theorem Own.alloc (h : Own w B e k enc v xs) (o : Obj) : Own (w.alloc o) B e k enc v xs := World.ownsRow.alloc h o
theorem Own.drewN (h : Own w B e k enc v xs) (n : Nat) : Own (w.drewN n) B e k enc v xs := h
theorem Own.mono {B' : Nat} (h : Own w B e k enc v xs) (hB : B' ≤ B) : Own w B' e k enc v xs := by
  refine ⟨h.1, ?_⟩
  rcases h.2 with h | ⟨g, cap, cur, h1, h2, h3⟩
  · exact .inl h
  · exact .inr ⟨g, cap, cur, h1, Nat.le_trans hB h2, h3⟩
theorem Own.rd (h : Own w B e k enc v xs) : Rd w k enc v xs := by
  rcases h.2 with ⟨rfl, h0⟩ | ⟨g, cap, cur, rfl, hb, hh, hn, hm, hs, ht⟩
  · exact ⟨none, 0, by rw [h0], by omega, fun hp => absurd hp (by omega)⟩
  · exact ⟨_, cap, rfl, hn, fun hp => ⟨_, rfl, (Array.getElem?_eq_some_iff.1 hh).1, World.ownsRow.cells h (g := g) rfl⟩⟩
theorem Rd.keep (h : Rd w k enc v xs) (hs : w.heap.size ≤ w'.heap.size) (hk : ∀ p : Addr, p.block < w.heap.size → w'.cell? p = w.cell? p) : Rd w' k enc v xs := by
  obtain ⟨A, c, rfl, hc, hr⟩ := h
  refine ⟨A, c, rfl, hc, fun hp => ?_⟩
  obtain ⟨ad, rfl, hb, hcell⟩ := hr hp
  refine ⟨ad, rfl, by omega, fun j u hu => ?_⟩
  rw [hk _ (by unfold Addr.add; split <;> exact hb)]; exact hcell j u hu
theorem Rd.same (h : Rd w k enc v xs) (hs : Same w w') : Rd w' k enc v xs := h.keep hs.size fun p hp => Below.cell hs hp
theorem Rd.alloc (h : Rd w k enc v xs) (o : Obj) : Rd (w.alloc o) k enc v xs := h.same ((Same.refl w).alloc o)
theorem Rd.drewN (h : Rd w k enc v xs) (n : Nat) : Rd (w.drewN n) k enc v xs := h
theorem Rd.nil (w : World) (k : Nat) (enc : α → List Value) : Rd w k enc (.slice none 0 0) [] := ⟨none, 0, rfl, by simp, fun h => absurd h (by simp)⟩
theorem Rd.len (h : Rd w k enc v xs) : ∃ A c, v = .slice A xs.length c ∧ xs.length ≤ c := let ⟨A, c, e, hc, _⟩ := h; ⟨A, c, e, hc⟩
/-- Element i's cells. -/
theorem Rd.at (h : Rd w k enc v xs) (hk : ∀ x, (enc x).length = k) {A : Option Addr} {n c : Nat} (hv : v = .slice A n c) (i : Nat) (x : α) (hx : xs[i]? = some x) :
    ∃ ad : Addr, A = some ad ∧ ad.block < w.heap.size ∧ ∀ j u, (enc x)[j]? = some u → w.cell? (ad.add (i * k + j)) = some u := by
  obtain ⟨A', c', hv', hc, hr⟩ := h
  have hi : i < xs.length := (List.getElem?_eq_some_iff.1 hx).1
  obtain ⟨ad, rfl, hb, hcell⟩ := hr (by omega)
  rw [hv'] at hv
  injection hv with h1 h2 h3
  exact ⟨ad, h1.symm, hb, fun j u hu => hcell _ u (flat_get hk xs i x j u hx hu)⟩
end

section
variable {P : Program} {ops : Array Oper} {rest : List Oper} {o : Oper} {a : Act} {Q : Exit → Act → World → Prop} {α : Type}
/-- append(v, y): behind 'at_builtin', in the world in which y's cells lie in a new block. -/
theorem app1 {Wn : World} (W : World) (B : Nat) (hgd : o.guard = none) (s x : Operand) (t e : TypeId) (z : Value) (k bytes : Nat)
    (ho : o.op = .call { callee := .builtin .append, args := #[s, x], argTypes := #[t, t] })
    (ht : P.underlying t = some (.slice e)) (hinfo : (P.info? e).map (fun i => (i.zero, i.size, i.bytes)) = some (some z, k, bytes)) (hz : z.cells.size = k) (hk0 : 0 < k) (hb0 : 0 < bytes)
    (enc : α → List Value) (henc : ∀ x, (enc x).length = k) (h1 : ∀ x, ∀ u ∈ enc x, u.oneCell' = true)
    (v : Value) (xs : List α) (y : α) (hs : a.eval s = v) (hx : a.eval x = .slice (some ⟨W.heap.size, 0, none⟩) 1 1)
    (HO : Own W B e k enc v xs) (hbase : B ≤ W.heap.size) (hl : (xs.length + 1) * bytes ≤ 140737488355328) (hW : Wn = W.alloc (.cells (enc y).toArray e))
    (h : ∀ v1 w1, Own w1 B e k enc v1 (xs ++ [y]) → W.grownBy w1 v.ownBlock → (v1.ownBlock = v.ownBlock ∨ ∃ b, v1.ownBlock = some b ∧ W.heap.size ≤ b) → wpList P ops Q rest (a.put o.dst v1) w1) :
    wpList P ops Q (o :: rest) a Wn := by
  subst hW
  obtain ⟨i0, hi, hzz⟩ := Option.map_eq_some_iff.1 hinfo
  simp only [Prod.mk.injEq] at hzz
  obtain ⟨hz0, hz1, hz2⟩ := hzz
  have hlen : xs.length + 1 ≤ 140737488355328 := Nat.le_trans (Nat.le_mul_of_pos_right _ hb0) hl
  refine wpList_append_own_at (W.alloc (.cells (enc y).toArray e)) hgd s x t ho B e i0 z k bytes ht hi hz0 hz1 hz2 hz hk0 v xs.length (xs.flatMap enc) hs (HO.alloc _) ⟨W.heap.size, 0, none⟩ 1 1 (enc y) hx (by rw [henc]; omega)
    (fun j u hj => ?_) (h1 y) (by simp only [maxLen]; omega) hl (by simp; omega) ?_
  · have := Bk.cell (Bk.new W e (enc y).toArray) j u (by simpa using hj)
    rw [show (⟨W.heap.size, 0, none⟩ : Addr).add j = ⟨W.heap.size, j, none⟩ by unfold Addr.add; split <;> simp_all]
    exact this
  · intro v1 w1 hown hg _ hat
    refine h v1 w1 ?_ (World.grownBy.trans (World.grownBy_alloc W _ _) hg) ?_
    · unfold Own; rw [List.length_append, List.flatMap_append]; simpa using hown
    · rcases hat with hat | hat
      · exact .inl hat
      · exact .inr ⟨_, hat, by simp⟩
/-- append(v, ys...) -/
theorem appN (W : World) (B : Nat) (hgd : o.guard = none) (s x : Operand) (t e : TypeId) (z : Value) (k bytes : Nat)
    (ho : o.op = .call { callee := .builtin .append, args := #[s, x], argTypes := #[t, t] })
    (ht : P.underlying t = some (.slice e)) (hinfo : (P.info? e).map (fun i => (i.zero, i.size, i.bytes)) = some (some z, k, bytes)) (hz : z.cells.size = k) (hk0 : 0 < k) (hb0 : 0 < bytes)
    (enc : α → List Value) (henc : ∀ x, (enc x).length = k) (h1 : ∀ x, ∀ u ∈ enc x, u.oneCell' = true)
    (v y : Value) (xs ys : List α) (hs : a.eval s = v) (hx : a.eval x = y)
    (HO : Own W B e k enc v xs) (HR : Rd W k enc y ys) (hbase : B ≤ W.heap.size) (hl : (xs.length + ys.length) * bytes ≤ 140737488355328)
    (h : ∀ v1 w1, Own w1 B e k enc v1 (xs ++ ys) → W.grownBy w1 v.ownBlock → (v1.ownBlock = v.ownBlock ∨ ∃ b, v1.ownBlock = some b ∧ W.heap.size ≤ b) → wpList P ops Q rest (a.put o.dst v1) w1) :
    wpList P ops Q (o :: rest) a W := by
  obtain ⟨i0, hi, hzz⟩ := Option.map_eq_some_iff.1 hinfo
  simp only [Prod.mk.injEq] at hzz
  obtain ⟨hz0, hz1, hz2⟩ := hzz
  have hlen : xs.length + ys.length ≤ 140737488355328 := Nat.le_trans (Nat.le_mul_of_pos_right _ hb0) hl
  obtain ⟨A, c, rfl, hc, hr⟩ := HR
  have h1' : ∀ u ∈ ys.flatMap enc, u.oneCell' = true := fun u hu => by
    obtain ⟨x, _, hx⟩ := List.mem_flatMap.1 hu
    exact h1 x u hx
  rcases Nat.eq_zero_or_pos ys.length with h0 | h0
  · obtain rfl : ys = [] := List.eq_nil_of_length_eq_zero h0
    have hrun : (Builtin.append_ #[t, t] o.type #[v, .slice A 0 c]).run P W = .ok v W := by
      rcases HO.2 with ⟨rfl, hn⟩ | ⟨g, cap, cur, rfl, _, _, hnc, _⟩
      · cases A <;> simp [Builtin.append_, run_underlying ht, sizeOf, typeInfo, hi, Builtin.lenOf, Builtin.firstCells, hn, loadCells, storeCells, loadCellsFrom]
      · cases A <;> simp [Builtin.append_, run_underlying ht, sizeOf, typeInfo, hi, Builtin.lenOf, Builtin.firstCells, hnc, storeCells, loadCells, loadCellsFrom]
    refine wpList_plain hgd fun K hK => ?_
    unfold Oper.wp execOp
    simp only [ho, resolve, invoke, builtin, Sem.run_bind, Sem.run_pure, Result.andThen_ok, List.map_toArray, List.map_cons, List.map_nil, hs, hx, List.length_nil, hrun]
    exact hK _ _ (h v W (by simpa using HO) (World.grownBy.refl _ _) (.inl rfl))
  · obtain ⟨ad, rfl, hb, hcell⟩ := hr h0
    refine wpList_append_own_at W hgd s x t ho B e i0 z k bytes ht hi hz0 hz1 hz2 hz hk0 v xs.length (xs.flatMap enc) hs HO ad ys.length c (ys.flatMap enc) hx (by rw [flat_len henc])
      hcell h1' (by simp only [maxLen]; omega) hl hbase ?_
    intro v1 w1 hown hg _ hat
    refine h v1 w1 ?_ hg ?_
    · unfold Own; rw [List.length_append, List.flatMap_append]; exact hown
    · rcases hat with hat | hat
      · exact .inl hat
      · exact .inr ⟨_, hat, Nat.le_refl _⟩
end

/-! ### Bytes -/
abbrev encB (b : UInt8) : List Value := [.int .u8 b.toNat]
theorem strOf_bytes (l : List UInt8) : strOfNums (l.map fun b => (b.toNat : Int)) = ofL l := by
  unfold strOfNums ofL
  congr 2
  rw [List.map_map]
  conv => rhs; rw [← List.map_id l]
  refine List.map_congr_left fun b _ => ?_
  simp
theorem flat_B (l : List UInt8) : l.flatMap encB = l.map fun b => Value.int .u8 (b.toNat : Int) := by
  induction l with
  | nil => rfl
  | cons a l ih => simp only [List.flatMap_cons, ih, List.map_cons]; rfl
theorem Own.string {P : Program} {w : World} {B : Nat} {e src dst : TypeId} {v : Value} {l : List UInt8} (h : Own w B e 1 encB v l)
    (hs : P.underlying src = some (.slice e)) (he : P.underlying e = some (.int .u8)) (hd : P.underlying dst = some .string) : (convert src dst v).run P w = .ok (.string (ofL l)) w := by
  rcases h.2 with ⟨rfl, h0⟩ | ⟨g, cap, cur, rfl, _⟩
  · obtain rfl : l = [] := List.eq_nil_of_length_eq_zero h0
    exact run_convert_bytes_nil w src e hs he 0 0 dst hd
  · rw [← strOf_bytes]
    refine run_convert_bytes_arg w src e hs he g 0 l.length cap _ (by simp) (fun i hi => ?_) dst hd
    have := World.ownsRow.cells h (g := g) rfl i (.int .u8 (l[i].toNat : Int)) (by rw [flat_B]; simp [List.getElem?_eq_getElem hi])
    rw [show (⟨g, 0, none⟩ : Addr).add i = ⟨g, 0 + i, none⟩ by unfold Addr.add; split <;> simp_all] at this
    simpa [List.getD_eq_getElem?_getD, List.getElem?_eq_getElem hi] using this
theorem shr7 (v : Nat) : ((v : Int) / 128) = ((v / 128 : Nat) : Int) := by simp
theorem or128 (v : Nat) : bits .or .u8 (((v : Int)) % 256) 128 = ((v % 128 + 128 : Nat) : Int) := by
  rw [show ((v : Int) % 256) = ((v % 256 : Nat) : Int) by simp, show (128 : Int) = ((128 : Nat) : Int) by rfl, u8_or_nat _ 128 (by omega) (by omega)]
  congr 1
  have e : v % 256 = 128 * (v / 128 % 2) + v % 128 := by omega
  have h := Nat.two_pow_add_eq_or_of_lt (i := 7) (b := v % 128) (Nat.mod_lt _ (by omega)) (v / 128 % 2)
  rw [show (2:Nat) ^ 7 = 128 by rfl] at h
  rw [e, h, Nat.or_comm, ← Nat.or_assoc]
  have h2 : 128 ||| 128 * (v / 128 % 2) = 128 := by
    have : v / 128 % 2 = 0 ∨ v / 128 % 2 = 1 := by omega
    rcases this with q | q <;> rw [q] <;> rfl
  rw [h2]
  have h3 := Nat.two_pow_add_eq_or_of_lt (i := 7) (b := v % 128) (Nat.mod_lt _ (by omega)) 1
  rw [show (2:Nat) ^ 7 * 1 = 128 by rfl] at h3
  omega
theorem cellA1 {W : World} {p : Addr} {v : Value} (h : W.cell? p = some v) (o : Obj) : (W.alloc o).cell? p = some v := Same.cell ((Same.refl W).alloc o) h
theorem cellA2 {W : World} {p : Addr} {v : Value} (h : W.cell? p = some v) (o o' : Obj) : ((W.alloc o).alloc o').cell? p = some v := cellA1 (cellA1 h o) o'
theorem cellA3 {W : World} {p : Addr} {v : Value} (h : W.cell? p = some v) (o o' o'' : Obj) : (((W.alloc o).alloc o').alloc o'').cell? p = some v := cellA1 (cellA2 h o o') o''
end Go.Proofs.Ytjmnncggjgmfdaa
