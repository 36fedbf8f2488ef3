/- A slice of counts, one of them set. -/
import Derived.Test.YtjmnncggjgmfdaaV7
namespace Go.Proofs.Ytjmnncggjgmfdaa
open Go.RowKit Ws
set_option linter.unusedVariables false
set_option linter.unusedSimpArgs false

theorem flat_set7 (y : Dl) : ∀ (xs : List Dl) (j : Nat), j < xs.length →
    (((((((xs.flatMap encD).set (j * 7) (.int .i64 y.l)).set (j * 7 + 1) (.int .u32 y.t.e)).set (j * 7 + 2) (.int .i64 y.t.d)).set (j * 7 + 3) (.int .u32 y.t.a)).set (j * 7 + 4) (.int .u32 y.t.b)).set (j * 7 + 5) (.int .u32 y.t.c)).set (j * 7 + 6) (.int .i64 y.n) = (xs.set j y).flatMap encD := by
  intro xs
  induction xs with
  | nil => intro j h; simp at h
  | cons a l ih =>
    intro j h
    cases j with
    | zero => simp [encD]
    | succ j =>
      have hl : j < l.length := by simpa using h
      have e : ∀ k, (j + 1) * 7 + k = (j * 7 + k) + 7 := by intro k; omega
      have e0 : (j + 1) * 7 = j * 7 + 7 := by omega
      have := ih j hl
      simp only [List.flatMap_cons, encD, List.cons_append, List.nil_append, List.set_cons_succ, e, e0, List.set_cons_zero] at this ⊢
      rw [← this]
theorem Own.set7 {w : World} {B g c : Nat} {xs : List Dl} (h : Own w B 69 7 encD (.slice (some ⟨g, 0, none⟩) xs.length c) xs) (j : Nat) (hj : j < xs.length) (y : Dl) :
    Own (((((((w.setCell ⟨g, j * 7, none⟩ (.int .i64 y.l)).setCell ⟨g, j * 7 + 1, none⟩ (.int .u32 y.t.e)).setCell ⟨g, j * 7 + 2, none⟩ (.int .i64 y.t.d)).setCell ⟨g, j * 7 + 3, none⟩ (.int .u32 y.t.a)).setCell ⟨g, j * 7 + 4, none⟩ (.int .u32 y.t.b)).setCell ⟨g, j * 7 + 5, none⟩ (.int .u32 y.t.c)).setCell ⟨g, j * 7 + 6, none⟩ (.int .i64 y.n)) B 69 7 encD (.slice (some ⟨g, 0, none⟩) xs.length c) (xs.set j y) := by
  have h1 := (World.ownsRow.stored h (j * 7) (.int .i64 y.l)).1
  have h2 := (World.ownsRow.stored h1 (j * 7 + 1) (.int .u32 y.t.e)).1
  have h3 := (World.ownsRow.stored h2 (j * 7 + 2) (.int .i64 y.t.d)).1
  have h4 := (World.ownsRow.stored h3 (j * 7 + 3) (.int .u32 y.t.a)).1
  have h5 := (World.ownsRow.stored h4 (j * 7 + 4) (.int .u32 y.t.b)).1
  have h6 := (World.ownsRow.stored h5 (j * 7 + 5) (.int .u32 y.t.c)).1
  have h7 := (World.ownsRow.stored h6 (j * 7 + 6) (.int .i64 y.n)).1
  rw [flat_set7 y xs j hj] at h7
  unfold Own
  rw [List.length_set]
  exact h7
theorem set_mid (a b : List Dl) (z y : Dl) (k : Nat) (hk : a.length = k) : (a ++ z :: b).set k y = a ++ y :: b := by
  subst hk
  simp
/-- One step of the shift: what stands at k + 1 is lost, what stood at k stands there too. -/
theorem shift_step (acc : List Dl) (k : Nat) (z y : Dl) (hy : acc[k]? = some y) : (acc.take (k + 1) ++ z :: acc.drop (k + 1)).set (k + 1) y = acc.take k ++ y :: acc.drop k := by
  have hk := (List.getElem?_eq_some_iff.1 hy).1
  rw [set_mid _ _ _ _ _ (by rw [List.length_take]; omega), List.take_add_one, hy, List.drop_eq_getElem_cons hk, (List.getElem?_eq_some_iff.1 hy).2]
  simp
theorem own_form {α : Type} {w : World} {B : Nat} {e : TypeId} {k : Nat} {enc : α → List Value} {v : Value} {xs : List α} (h : Own w B e k enc v xs) (hl : 0 < xs.length) : ∃ g c, v = .slice (some ⟨g, 0, none⟩) xs.length c ∧ B ≤ g ∧ g < w.heap.size := by
  rcases h.2 with ⟨rfl, h0⟩ | ⟨g, cap, cur, rfl, hb, hh, hn, hm, hs, ht⟩
  · omega
  · exact ⟨g, cap, rfl, hb, (Array.getElem?_eq_some_iff.1 hh).1⟩
/-- app1, the new slice laid open -/
theorem app1s {P : Program} {ops : Array Oper} {rest : List Oper} {o : Oper} {a : Act} {Q : Exit → Act → World → Prop} {α : Type} {Wn : World} (W : World) (B : Nat) (hgd : o.guard = none) (s x : Operand) (t e : TypeId) (z : Value) (k bytes : Nat)
    (ho : o.op = .call { callee := .builtin .append, args := #[s, x], argTypes := #[t, t] })
    (ht : P.underlying t = some (.slice e)) (hinfo : (P.info? e).map (fun i => (i.zero, i.size, i.bytes)) = some (some z, k, bytes)) (hz : z.cells.size = k) (hk0 : 0 < k) (hb0 : 0 < bytes)
    (enc : α → List Value) (henc : ∀ x, (enc x).length = k) (h1 : ∀ x, ∀ u ∈ enc x, u.oneCell' = true)
    (v : Value) (xs : List α) (y : α) (m : Nat) (hs : a.eval s = v) (hx : a.eval x = .slice (some ⟨W.heap.size, 0, none⟩) 1 1)
    (HO : Own W B e k enc v xs) (hbase : B ≤ W.heap.size) (hl : (xs.length + 1) * bytes ≤ 140737488355328) (hm : m = xs.length + 1) (hW : Wn = W.alloc (.cells (enc y).toArray e))
    (h : ∀ g c w1, Own w1 B e k enc (.slice (some ⟨g, 0, none⟩) m c) (xs ++ [y]) → W.grownBy w1 v.ownBlock → B ≤ g → g < w1.heap.size → wpList P ops Q rest (a.put o.dst (.slice (some ⟨g, 0, none⟩) m c)) w1) :
    wpList P ops Q (o :: rest) a Wn := by
  refine app1 W B hgd s x t e z k bytes ho ht hinfo hz hk0 hb0 enc henc h1 v xs y hs hx HO hbase hl hW ?_
  intro v1 w1 h1 h2 _
  obtain ⟨g, c, rfl, hg, hlt⟩ := own_form h1 (by simp)
  have : (xs ++ [y]).length = m := by simp [hm]
  rw [this] at h1 ⊢
  exact h g c w1 h1 h2 hg hlt
theorem Own.set7' {w : World} {B g c m : Nat} {xs : List Dl} (h : Own w B 69 7 encD (.slice (some ⟨g, 0, none⟩) m c) xs) (hm : m = xs.length) (j : Nat) (hj : j < m) (y : Dl) :
    Own (((((((w.setCell ⟨g, j * 7, none⟩ (.int .i64 y.l)).setCell ⟨g, j * 7 + 1, none⟩ (.int .u32 y.t.e)).setCell ⟨g, j * 7 + 2, none⟩ (.int .i64 y.t.d)).setCell ⟨g, j * 7 + 3, none⟩ (.int .u32 y.t.a)).setCell ⟨g, j * 7 + 4, none⟩ (.int .u32 y.t.b)).setCell ⟨g, j * 7 + 5, none⟩ (.int .u32 y.t.c)).setCell ⟨g, j * 7 + 6, none⟩ (.int .i64 y.n)) B 69 7 encD (.slice (some ⟨g, 0, none⟩) m c) (xs.set j y) := by
  subst hm; exact Own.set7 h j hj y
theorem flat_setn (n : Int) : ∀ (xs : List Dl) (j : Nat) (y : Dl), xs[j]? = some y → (xs.flatMap encD).set (j * 7 + 6) (.int .i64 n) = (xs.set j { y with n := n }).flatMap encD := by
  intro xs
  induction xs with
  | nil => intro j y h; simp at h
  | cons a l ih =>
    intro j y h
    cases j with
    | zero => simp only [List.getElem?_cons_zero, Option.some.injEq] at h; subst h; simp [encD]
    | succ j =>
      have := ih j y (by simpa using h)
      have e0 : (j + 1) * 7 + 6 = (j * 7 + 6) + 7 := by omega
      simp only [List.flatMap_cons, encD, List.cons_append, List.nil_append, List.set_cons_succ, e0] at this ⊢
      rw [← this]
theorem Own.setn {w : World} {B g c m : Nat} {xs : List Dl} (h : Own w B 69 7 encD (.slice (some ⟨g, 0, none⟩) m c) xs) (hm : m = xs.length) (j : Nat) (y : Dl) (hy : xs[j]? = some y) (n : Int) :
    Own (w.setCell ⟨g, j * 7 + 6, none⟩ (.int .i64 n)) B 69 7 encD (.slice (some ⟨g, 0, none⟩) m c) (xs.set j { y with n := n }) := by
  subst hm
  have h1 := (World.ownsRow.stored h (j * 7 + 6) (.int .i64 n)).1
  rw [flat_setn n xs j y hy] at h1
  unfold Own
  rw [List.length_set]
  exact h1
theorem Own.frozen {α : Type} {w : World} {B : Nat} {e : TypeId} {k g m c : Nat} {enc : α → List Value} {xs : List α} (h : Own w B e k enc (.slice (some ⟨g, 0, none⟩) m c) xs) (hm : m = xs.length) (j : Nat) : w.frozen? ⟨g, j, none⟩ = false := by
  subst hm; exact World.ownsRow.frozenAt h j
theorem Own.cellN {α : Type} {w : World} {B : Nat} {e : TypeId} {k g m c : Nat} {enc : α → List Value} {xs : List α} (h : Own w B e k enc (.slice (some ⟨g, 0, none⟩) m c) xs) (hm : m = xs.length) (hk : ∀ x, (enc x).length = k) (i : Nat) (x : α) (hx : xs[i]? = some x) (j : Nat) (u : Value) (hu : (enc x)[j]? = some u) : w.cell? ⟨g, i * k + j, none⟩ = some u := by
  subst hm
  have hi := (List.getElem?_eq_some_iff.1 hx).1
  have hj := (List.getElem?_eq_some_iff.1 hu).1
  rw [hk] at hj
  have : i * k + j < xs.length * k := by
    have := Nat.mul_le_mul_right k (show i + 1 ≤ xs.length by omega)
    rw [Nat.succ_mul] at this
    omega
  rw [World.ownsRow.cellAt h _ this]
  exact flat_get hk xs i x j u hx hu
theorem BdT.ins {tb : List Dl} {B C : Int} (h : BdT tb B) (x : Dl) (hB : 0 ≤ B) (hC : 0 ≤ C) (hx : -C ≤ x.n ∧ x.n ≤ C) : BdT (ins tb x) (B + C) := by
  induction tb with
  | nil =>
    intro y hy
    simp only [Ws.ins, List.mem_singleton] at hy
    subst hy
    omega
  | cons a l ih =>
    have ha := h a List.mem_cons_self
    have hl : BdT l B := fun y hy => h y (List.mem_cons_of_mem _ hy)
    intro y hy
    simp only [Ws.ins] at hy
    split at hy
    · rcases List.mem_cons.1 hy with rfl | hy
      · simp only; omega
      · have := hl y hy; omega
    · split at hy
      · rcases List.mem_cons.1 hy with rfl | hy
        · omega
        · exact ih hl y hy
      · rcases List.mem_cons.1 hy with rfl | hy
        · omega
        · rcases List.mem_cons.1 hy with rfl | hy
          · omega
          · have := hl y hy; omega
theorem mid_at (acc : List Dl) (k : Nat) (z y : Dl) (hy : acc[k]? = some y) : (acc.take (k + 1) ++ z :: acc.drop (k + 1))[k]? = some y := by
  have hk := (List.getElem?_eq_some_iff.1 hy).1
  rw [List.getElem?_append_left (by rw [List.length_take]; omega), List.getElem?_take, if_pos (by omega), hy]
theorem mid_at' (acc : List Dl) (k : Nat) (z : Dl) (hk : k ≤ acc.length) : (acc.take k ++ z :: acc.drop k)[k]? = some z := by
  rw [List.getElem?_append_right (by rw [List.length_take]; omega), List.length_take, Nat.min_eq_left hk, Nat.sub_self]
  rfl
theorem mid_len (acc : List Dl) (k : Nat) (z : Dl) (hk : k ≤ acc.length) : acc.length + 1 = (acc.take k ++ z :: acc.drop k).length := by
  rw [List.length_append, List.length_cons, List.length_take, List.length_drop]; omega
theorem mid_set (acc : List Dl) (k : Nat) (z x : Dl) (hk : k ≤ acc.length) : (acc.take k ++ z :: acc.drop k).set k x = acc.take k ++ x :: acc.drop k :=
  set_mid _ _ _ _ _ (by rw [List.length_take]; omega)
theorem ins_at (d : Dl) (b : List Dl) (hb : ∀ y ∈ b, 0 < y.cmp d) : ∀ (a : List Dl), (∀ y ∈ a, y.cmp d < 0) → ins (a ++ b) d = a ++ d :: b := by
  intro a
  induction a with
  | nil =>
    intro _
    cases b with
    | nil => rfl
    | cons y b =>
      have h1 := hb y List.mem_cons_self
      simp only [List.nil_append, ins]
      rw [if_neg (by omega), if_neg (by omega)]
  | cons x a ih =>
    intro ha
    have h1 := ha x List.mem_cons_self
    have := ih (fun y hy => ha y (List.mem_cons_of_mem _ hy))
    simp only [List.cons_append, ins]
    rw [if_neg (by omega), if_pos h1, this]
theorem ins_len (A : List Dl) (d : Dl) : (ins A d).length ≤ A.length + 1 := by
  induction A with
  | nil => simp [ins]
  | cons x A ih =>
    simp only [ins]
    split
    · simp
    · split
      · simp only [List.length_cons]; omega
      · simp
theorem below_at {A : List Dl} {d : Dl} {j : Nat} {y : Dl} (hs : Srt A) (hy : A[j]? = some y) (hd : y.cmp d < 0) : ∀ z ∈ A.take (j + 1), z.cmp d < 0 := by
  intro z hz
  obtain ⟨k, hk⟩ := List.mem_iff_getElem?.1 hz
  rw [List.getElem?_take] at hk
  split at hk
  · rename_i hkj
    rcases Nat.lt_or_ge k j with h | h
    · have h1 := List.pairwise_iff_getElem.1 hs k j (List.getElem?_eq_some_iff.1 hk).1 (List.getElem?_eq_some_iff.1 hy).1 h
      rw [(List.getElem?_eq_some_iff.1 hk).2, (List.getElem?_eq_some_iff.1 hy).2] at h1
      exact Dl.cmp_trans h1 hd
    · obtain rfl : k = j := by omega
      rw [hy] at hk
      cases hk
      exact hd
  · cases hk
theorem errs_upto {l : List Dl} (h : ∀ y ∈ l, y.check = 0) : errs l = 0 := errs_of h

theorem ins_mid {acc : List Dl} {x : Dl} {J : Nat} (HJ : ∀ k y, J ≤ k → acc[k]? = some y → 0 < y.cmp x) (hlow : ∀ y ∈ acc.take J, y.cmp x < 0) : ins acc x = acc.take J ++ x :: acc.drop J := by
  have := ins_at x (acc.drop J) (fun y hy => by
    obtain ⟨k, hk⟩ := List.mem_iff_getElem?.1 hy
    rw [List.getElem?_drop] at hk
    exact HJ (J + k) y (by omega) hk) (acc.take J) hlow
  rwa [List.take_append_drop] at this
theorem foldl_snoc {l : List Dl} {i : Nat} {x : Dl} {acc : List Dl} (hx : l[i]? = some x) (h : (l.take i).foldl ins [] = acc) : (l.take (i + 1)).foldl ins [] = ins acc x := by
  rw [List.take_add_one, hx, List.foldl_append, h]
  rfl
theorem ins_mid_eq {acc : List Dl} {x y : Dl} {j : Nat} (hs : Srt acc) (hy : acc[j]? = some y) (hk : y.cmp x = 0) : ins acc x = acc.set j { y with n := y.n + x.n } := by
  have hj := (List.getElem?_eq_some_iff.1 hy).1
  have he : acc = acc.take j ++ y :: acc.drop (j + 1) := by
    rw [← (List.getElem?_eq_some_iff.1 hy).2, ← List.drop_eq_getElem_cons hj, List.take_append_drop]
  rw [he] at hs
  have := ins_split _ _ _ _ hs (Dl.cmp_zero.1 hk)
  rw [← he] at this
  rw [this]
  conv => rhs; rw [he]
  exact (set_mid _ _ _ _ _ (by rw [List.length_take]; omega)).symm
end Go.Proofs.Ytjmnncggjgmfdaa
