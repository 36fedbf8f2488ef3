/- Arguments opened: times, counts, slices of what has several cells. -/
import Derived.Test.YtjmnncggjgmfdaaN1
import Derived.Deep.Slices
import Derived.Deep.Strs
import Derived.OpenShut
namespace Go.Proofs.Ytjmnncggjgmfdaa
open Go.RowKit Ws Go.ChangeShapes Go.WideShapes Go.Deep
set_option linter.unusedVariables false
set_option linter.unusedSimpArgs false

section
variable {H : Type} {enc : TypeId × Value → H} {w : World} {base : Nat} {spare : Nat → Bool} {held : Bool}
theorem list_of {α : Type} {Q : Nat → α → Prop} : ∀ n, (∀ i, i < n → ∃ x, Q i x) → ∃ xs : List α, xs.length = n ∧ ∀ i x, xs[i]? = some x → Q i x
  | 0, _ => ⟨[], rfl, by intro i x h; simp at h⟩
  | n + 1, h => by
    obtain ⟨xs, hl, hq⟩ := list_of n (fun i hi => h i (by omega))
    obtain ⟨x, hx⟩ := h n (by omega)
    refine ⟨xs ++ [x], by simp [hl], fun i y hy => ?_⟩
    rcases Nat.lt_or_ge i xs.length with hi | hi
    · rw [List.getElem?_append_left hi] at hy
      exact hq i y hy
    · have hin := (List.getElem?_eq_some_iff.1 hy).1
      rw [List.length_append, List.length_singleton] at hin
      have e : i = n := by omega
      subst e
      rw [List.getElem?_append_right hi, hl, Nat.sub_self] at hy
      simp only [List.getElem?_cons_zero, Option.some.injEq] at hy
      subst hy
      exact hx
theorem trod_rd {P : Program} {α : Type} {ec : α → List Value} {k : Nat} {t e : TypeId} {good : α → Prop} (ht : P.underlying t = some (.slice e)) (hC : P.cellsOf e = k) (hk : ∀ x, (ec x).length = k) (h0 : 0 < k)
    (helem : ∀ (n : Nat) (cs : List Value) (y : DataW H × List MemPlace), DataW.trod enc P w base spare held n e cs = some y → ∃ x, cs = ec x ∧ good x)
    {fuel : Nat} {v : Value} {x : DataW H × List MemPlace} (h : DataW.trod enc P w base spare held fuel t [v] = some x) :
    ∃ xs : List α, Rd w k ec v xs ∧ (∀ x ∈ xs, good x) ∧ xs.length ≤ maxLen := by
  rcases open_slice ht h with ⟨hcs, _⟩ | ⟨a, len, cap, m, n, D, Pl, hcs, hb, hl, hm, hmm, hx, hi⟩
  · simp only [List.cons.injEq, and_true] at hcs
    subst hcs
    exact ⟨[], Rd.nil _ _ _, (by intro x hx; cases hx), Nat.zero_le _⟩
  · simp only [List.cons.injEq, and_true] at hcs
    subst hcs
    have hlm : len ≤ m := by rw [hmm]; split <;> omega
    obtain ⟨xs, hxl, hq⟩ := list_of (Q := fun i x => w.cells? base (a.add (i * k)) k = some (ec x) ∧ good x) len (fun i hil => by
      obtain ⟨cs', hc, htr⟩ := hi i (by omega)
      rw [hC] at hc
      obtain ⟨x, rfl, hg⟩ := helem _ _ _ htr
      exact ⟨x, hc, hg⟩)
    have hcell : ∀ j u, (xs.flatMap ec)[j]? = some u → w.cell? (a.add j) = some u := by
      intro j u hu
      have hjl := (List.getElem?_eq_some_iff.1 hu).1
      rw [flat_len hk] at hjl
      have hdl : j / k < xs.length := Nat.div_lt_of_lt_mul (by rw [Nat.mul_comm]; exact hjl)
      have hml : j % k < k := Nat.mod_lt _ h0
      have hxi : xs[j / k]? = some xs[j / k] := List.getElem?_eq_getElem hdl
      have hml' : j % k < (ec xs[j / k]).length := by rw [hk]; exact hml
      have hui := List.getElem?_eq_getElem hml'
      have hfl := flat_get hk xs (j / k) _ (j % k) _ hxi hui
      have hdm : j / k * k + j % k = j := by rw [Nat.mul_comm]; exact Nat.div_add_mod j k
      rw [hdm, hu] at hfl
      obtain ⟨hc, _⟩ := hq _ _ hxi
      obtain ⟨_, _, hat⟩ := World.cells?_some hc
      have := hat (j % k) hml
      rw [Go.Deep.add_add, hdm, hui, ← hfl] at this
      exact this
    refine ⟨xs, ⟨some a, cap, by rw [hxl], by omega, fun hp => ⟨a, rfl, ?_, hcell⟩⟩, fun x hx => ?_, by omega⟩
    · have hx0 : xs[0]? = some xs[0] := List.getElem?_eq_getElem hp
      have hl0 : 0 < (ec xs[0]).length := by rw [hk]; exact h0
      have hfl := flat_get hk xs 0 _ 0 _ hx0 (List.getElem?_eq_getElem hl0)
      have := World.block_lt_of_cell? _ _ (hcell _ _ hfl)
      unfold Addr.add at this
      split at this <;> exact this
    · obtain ⟨i, hi⟩ := List.mem_iff_getElem?.1 hx
      exact (hq i x hi).2

theorem bd_i64 {n : Int} (h : (Lit.int .i64 n).wf = true) : -9223372036854775808 ≤ n ∧ n ≤ 9223372036854775807 := by
  simp [Lit.wf, IntKind.min, IntKind.max, IntKind.signed, IntKind.bits] at h; omega
theorem bd_u32 {n : Int} (h : (Lit.int .u32 n).wf = true) : 0 ≤ n ∧ n ≤ 4294967295 := by
  simp [Lit.wf, IntKind.min, IntKind.max, IntKind.signed, IntKind.bits] at h; omega
theorem cT5 : Try.prog.cellsOf 50 = 5 := by kernel_rfl
theorem cL3 : Try.prog.cellsOf 48 = 3 := by kernel_rfl
theorem cU1 : Try.prog.cellsOf 47 = 1 := by kernel_rfl
theorem cI1 : Try.prog.cellsOf 3 = 1 := by kernel_rfl
theorem cN1 : Try.prog.cellsOf 2 = 1 := by kernel_rfl
theorem cD7 : Try.prog.cellsOf 69 = 7 := by kernel_rfl
theorem trod_time {n : Nat} {cs : List Value} {y : DataW H × List MemPlace} (h : DataW.trod enc Try.prog w base spare held n 50 cs = some y) : ∃ t : Tm, cs = encT t ∧ t.Ok := by
  obtain ⟨y0, y1, y2, m, _, hl, h0, h1, h2⟩ := trod_struct3 Try.underlying50 h
  simp only [cT5, cL3, cU1, cI1] at hl h0 h1 h2
  match cs, hl with
  | [c0, c1, c2, c3, c4], _ =>
    simp only [List.drop_zero, List.drop_succ_cons, List.take_succ_cons, List.take_zero] at h0 h1 h2
    obtain ⟨e, he, _, we⟩ := DataW.trod_int Try.underlying47 h0
    obtain ⟨d, hd, _, wd⟩ := DataW.trod_int Try.underlying3 h1
    obtain ⟨xs, k, _, _, _, hn, hel⟩ := DataW.trod_array Try.underlying48 h2
    simp only [cU1] at hel
    match xs, hn with
    | [x0, x1, x2], _ =>
      have g0 := hel 0 (by omega)
      have g1 := hel 1 (by omega)
      have g2 := hel 2 (by omega)
      simp only [Nat.zero_mul, Nat.one_mul, Nat.mul_one, List.drop_zero, List.drop_succ_cons, List.take_succ_cons, List.take_zero, List.getElem?_cons_zero, List.getElem?_cons_succ] at g0 g1 g2
      obtain ⟨a, ha, _, wa⟩ := DataW.trod_int Try.underlying47 g0
      obtain ⟨b, hb, _, wb⟩ := DataW.trod_int Try.underlying47 g1
      obtain ⟨c, hc, _, wc⟩ := DataW.trod_int Try.underlying47 g2
      simp only [List.cons.injEq, and_true] at he hd ha hb hc
      subst he; subst hd; subst ha; subst hb; subst hc
      have be := bd_u32 we
      have ba := bd_u32 wa
      have bb := bd_u32 wb
      have bc := bd_u32 wc
      have bd := bd_i64 wd
      exact ⟨⟨e, d, a, b, c⟩, rfl, ⟨be.1, be.2, ba.1, ba.2, bb.1, bb.2, bc.1, bc.2, bd.1, bd.2⟩⟩
theorem trod_delta {n : Nat} {cs : List Value} {y : DataW H × List MemPlace} (h : DataW.trod enc Try.prog w base spare held n 69 cs = some y) : ∃ x : Dl, cs = encD x ∧ x.Ok := by
  obtain ⟨y0, y1, y2, m, _, hl, h0, h1, h2⟩ := trod_struct3 Try.underlying69 h
  simp only [cT5, cD7, cN1, cI1] at hl h0 h1 h2
  match cs, hl with
  | [c0, c1, c2, c3, c4, c5, c6], _ =>
    simp only [List.drop_zero, List.drop_succ_cons, List.take_succ_cons, List.take_zero] at h0 h1 h2
    obtain ⟨l, hl, _, wl⟩ := DataW.trod_int Try.underlying3 h0
    obtain ⟨t, ht, okt⟩ := trod_time h1
    obtain ⟨k, hk, _, wk⟩ := DataW.trod_int Try.underlying2 h2
    simp only [List.cons.injEq, and_true] at hl hk
    subst hl; subst hk
    have e : [Value.int .i64 l, c1, c2, c3, c4, c5, .int .i64 k] = .int .i64 l :: ([c1, c2, c3, c4, c5] ++ [.int .i64 k]) := rfl
    rw [e, ht]
    have bl := bd_i64 wl
    have bk := bd_i64 wk
    exact ⟨⟨l, t, k⟩, rfl, ⟨okt, bl.1, bl.2, bk.1, bk.2⟩⟩
end
end Go.Proofs.Ytjmnncggjgmfdaa
