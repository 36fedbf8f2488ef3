/- A map of counts: looked up, added to. -/
import Derived.Test.YtjmnncggjgmfdaaM1
namespace Go.Proofs.Ytjmnncggjgmfdaa
open Go.RowKit Ws
open Go.ChangeMaps (setBlock)
set_option linter.unusedVariables false
set_option linter.unusedSimpArgs false

def MapAt (w : World) (b : Nat) (tb : List Dl) : Prop := ∃ es clock, w.heap[b]? = some (.map es clock) ∧ es.toList.map (fun e => (e.key, e.val)) = tb.map (fun x => (vK x, (.int .i64 x.n : Value))) ∧
  (∀ x ∈ es.toList, x.born < clock) ∧ (es.toList.map (·.born)).Nodup ∧ (∀ x ∈ tb, KOk x) ∧ Dist tb

theorem upd_dist (l : List Dl) (d : Dl) (h : Dist l) : Dist (upd l d) := by
  by_cases hx : ∃ x ∈ l, x.key = d.key
  · obtain ⟨x, hx, hk⟩ := hx
    obtain ⟨a, b, rfl⟩ := List.append_of_mem hx
    have h2 := List.pairwise_append.1 h
    have h3 : ∀ y ∈ a, y.key ≠ d.key := fun y hy => hk ▸ h2.2.2 y hy x List.mem_cons_self
    rw [upd_split a b x d h3 hk]
    refine List.pairwise_append.2 ⟨h2.1, ?_, ?_⟩
    · have h4 := List.pairwise_cons.1 h2.2.1
      exact List.pairwise_cons.2 ⟨fun y hy => h4.1 y hy, h4.2⟩
    · intro y hy z hz
      rcases List.mem_cons.1 hz with rfl | hz
      · exact h2.2.2 y hy x List.mem_cons_self
      · exact h2.2.2 y hy z (List.mem_cons_of_mem _ hz)
  · have h3 : ∀ y ∈ l, y.key ≠ d.key := fun y hy e => hx ⟨y, hy, e⟩
    rw [upd_none l d h3]
    exact List.pairwise_append.2 ⟨h, List.pairwise_singleton _ _, fun y hy z hz => by rw [List.mem_singleton.1 hz]; exact h3 y hy⟩
theorem upd_kok (l : List Dl) (d : Dl) (h : ∀ x ∈ l, KOk x) (hd : KOk d) : ∀ x ∈ upd l d, KOk x := by
  by_cases hx : ∃ x ∈ l, x.key = d.key
  · obtain ⟨x, hx, hk⟩ := hx
    induction l with
    | nil => cases hx
    | cons a l ih =>
      simp only [upd]
      split
      · intro y hy
        rcases List.mem_cons.1 hy with rfl | hy
        · have := h a List.mem_cons_self
          exact ⟨this.t, this.l0, this.l1⟩
        · exact h y (List.mem_cons_of_mem _ hy)
      · rename_i hne
        intro y hy
        rcases List.mem_cons.1 hy with rfl | hy
        · exact h _ List.mem_cons_self
        · refine ih (fun z hz => h z (List.mem_cons_of_mem _ hz)) ?_ y hy
          rcases List.mem_cons.1 hx with rfl | hx
          · exact absurd hk hne
          · exact hx
  · rw [upd_none l d (fun y hy e => hx ⟨y, hy, e⟩)]
    intro y hy
    rcases List.mem_append.1 hy with hy | hy
    · exact h y hy
    · rw [List.mem_singleton.1 hy]; exact hd

theorem only_setBlock (w : World) (b : Nat) (o : Obj) : Only w (setBlock w b o) b :=
  ⟨rfl, rfl, rfl, by simp [setBlock], fun i hi hne => by
    have : b ≠ i := fun e => hne (by rw [e])
    simp [setBlock, this]⟩
theorem setBlock_at {w : World} {b : Nat} {o : Obj} (h : w.heap[b]? = some o) (o' : Obj) : (setBlock w b o').heap[b]? = some o' := by
  have : b < w.heap.size := by
    rcases Nat.lt_or_ge b w.heap.size with hlt | hge
    · exact hlt
    · rw [Array.getElem?_eq_none hge] at h; cases h
  simp [setBlock, this]

theorem zeroN (w : World) : (zeroValue 2).run Try.prog w = .ok (.int .i64 0) w := by kernel_rfl

/-- What a table holds at a key. -/
def atN (tb : List Dl) (x : Dl) : Int := ((tb.find? fun y => decide (y.key = x.key)).map Dl.n).getD 0

theorem upd_map (l : List Dl) (x : Dl) : ∀ j y, l[j]? = some y → (∀ i, i < j → ∀ z, l[i]? = some z → z.key ≠ x.key) → y.key = x.key → upd l x = l.set j { y with n := y.n + x.n } ∧ atN l x = y.n := by
  induction l with
  | nil => intro j y h; simp at h
  | cons a l ih =>
    intro j y h h1 h2
    cases j with
    | zero =>
      simp only [List.getElem?_cons_zero, Option.some.injEq] at h
      subst h
      simp [upd, h2, atN]
    | succ j =>
      have ha := h1 0 (by omega) a rfl
      have := ih j y (by simpa using h) (fun i hi z hz => h1 (i + 1) (by omega) z (by simpa using hz)) h2
      simp [upd, ha, this.1, atN]
      have h3 := this.2
      unfold atN at h3
      exact h3

theorem entryStore_run {W : World} {t : TypeId} {b st j : Nat} {es : Array MapEntry} {clock : Nat} {v : Value} (hb : W.heap[b]? = some (.map es clock)) (hidx : es.findIdx? (fun e => ((e.born : Nat) : Int) == ((st : Nat) : Int)) = some j) :
    (Instr.entryStore t (.map (some b)) (goInt st) v).run Try.prog W = .ok () (setBlock W b (.map (es.modify j fun e => { e with val := v }) clock)) := by
  simp [Instr.entryStore, MapKept.run_getObj_map hb, asInt, asIntOf, goInt, hidx, MapKept.run_setObj_map _ hb, Result.andThen, setBlock]

theorem map_add {w : World} {b : Nat} {tb : List Dl} {x : Dl} (h : MapAt w b tb) (ok : KOk x) : ∃ st W2 W4,
    (Instr.mapEntry 67 (.map (some b)) (vK x)).run Try.prog w = .ok (.tuple #[.int .i64 (atN tb x), goInt st]) W2 ∧
    (Instr.lookup 67 (.map (some b)) (vK x) false).run Try.prog w = .ok (.int .i64 (atN tb x)) w ∧
    (Instr.lookup 67 (.map (some b)) (vK x) false).run Try.prog W2 = .ok (.int .i64 (atN tb x)) W2 ∧
    (Instr.entryStore 67 (.map (some b)) (goInt st) (.int .i64 (atN tb x + x.n))).run Try.prog W2 = .ok () W4 ∧
    Only w W2 b ∧ Only w W4 b ∧ MapAt W4 b (upd tb x) := by
  obtain ⟨es, clock, hb, hes, hborn, hnd, hk, hd⟩ := h
  obtain ⟨kl, hkey⟩ := keyK x ok
  have ht : Try.prog.underlying 67 = some (.map 72 2) := by kernel_rfl
  have K := kLaw
  have hall : ∀ e ∈ es.toList, ∃ l, keyOf Try.prog 72 e.key = some l := by
    intro e he
    have := List.mem_map_of_mem (f := fun e : MapEntry => (e.key, e.val)) he
    rw [hes] at this
    obtain ⟨y, hy, hye⟩ := List.mem_map.1 this
    simp only [Prod.mk.injEq] at hye
    rw [← hye.1]
    exact keyK y (hk y hy)
  have hlen : es.toList.length = tb.length := by have := congrArg List.length hes; simpa using this
  have hget : ∀ (j : Nat) (e : MapEntry), es.toList[j]? = some e → ∃ y, tb[j]? = some y ∧ e.key = vK y ∧ e.val = .int .i64 y.n := by
    intro j e he
    have h1 := congrArg (fun l => l[j]?) hes
    simp only [List.getElem?_map, he, Option.map_some] at h1
    cases hy : tb[j]? with
    | none => rw [hy] at h1; cases h1
    | some y =>
      rw [hy] at h1
      simp only [Option.map_some, Option.some.injEq, Prod.mk.injEq] at h1
      exact ⟨y, rfl, h1.1, h1.2⟩
  rcases K.find w hkey es.toList hall with ⟨h1, h2⟩ | ⟨j, e0, h1, h2, h3⟩
  · have hno : ∀ y ∈ tb, y.key ≠ x.key := by
      intro y hy e
      obtain ⟨j, hj⟩ := List.mem_iff_getElem?.1 hy
      have hjl : j < es.toList.length := by rw [hlen]; exact (List.getElem?_eq_some_iff.1 hj).1
      obtain ⟨y', hy', hk', _⟩ := hget j es.toList[j] (List.getElem?_eq_getElem hjl)
      rw [hj] at hy'
      cases hy'
      exact h2 _ (List.getElem_mem hjl) (by rw [hk']; exact vK_key.2 e)
    have hat : atN tb x = 0 := by
      unfold atN
      rw [List.find?_eq_none.2 (fun y hy => by simp [hno y hy])]
      rfl
    rw [hat]
    obtain ⟨q, hq⟩ : ∃ q, 0 + x.n = q := ⟨_, rfl⟩
    rw [hq]
    have hb2 := setBlock_at hb (.map (es.push ⟨vK x, .int .i64 0, clock⟩) (clock + 1))
    refine ⟨clock, setBlock w b (.map (es.push ⟨vK x, .int .i64 0, clock⟩) (clock + 1)), setBlock (setBlock w b (.map (es.push ⟨vK x, .int .i64 0, clock⟩) (clock + 1))) b (.map (es.push ⟨vK x, .int .i64 q, clock⟩) (clock + 1)), ?_, ?_, ?_, ?_, only_setBlock _ _ _, (only_setBlock _ _ _).trans (only_setBlock _ _ _), ?_⟩
    · simp [Instr.mapEntry, run_underlying ht, MapKept.run_getObj_map hb, K.check w false hkey, h1, zeroN, MapKept.run_setObj_map _ hb, Result.andThen, setBlock]
    · simp [Instr.lookup, run_underlying ht, MapKept.run_getObj_map hb, K.check w _ hkey, h1, zeroN, Result.andThen]
    · have hall2 : ∀ e ∈ (es.push ⟨vK x, .int .i64 0, clock⟩).toList, ∃ l, keyOf Try.prog 72 e.key = some l := by
        intro e he
        rw [Array.toList_push] at he
        rcases List.mem_append.1 he with he | he
        · exact hall e he
        · rw [List.mem_singleton.1 he]; exact ⟨kl, hkey⟩
      rcases K.find (setBlock w b (.map (es.push ⟨vK x, .int .i64 0, clock⟩) (clock + 1))) hkey _ hall2 with ⟨_, h5⟩ | ⟨j, e0, h5, h6, h7⟩
      · exact absurd rfl (h5 ⟨vK x, .int .i64 0, clock⟩ (by simp))
      · have he0 : e0.val = .int .i64 0 := by
          have := List.mem_of_getElem? h6
          rw [Array.toList_push] at this
          rcases List.mem_append.1 this with he | he
          · exact absurd h7 (h2 e0 he)
          · rw [List.mem_singleton.1 he]
        rw [he0] at h5
        rw [Array.toList_push] at h5
        simp [Instr.lookup, run_underlying ht, MapKept.run_getObj_map hb2, K.check _ _ hkey, h5, Result.andThen]
    · have hidx : (es.push ⟨vK x, .int .i64 0, clock⟩).findIdx? (fun e => ((e.born : Nat) : Int) == ((clock : Nat) : Int)) = some es.size := by
        rw [WideElems.findIdx_arr]
        exact WideElems.findIdx_born (l := (es.push ⟨vK x, .int .i64 0, clock⟩).toList) (j := es.size) (e0 := ⟨vK x, .int .i64 0, clock⟩) (by
          simp only [Array.toList_push, List.map_append, List.map_cons, List.map_nil]
          refine List.nodup_append.2 ⟨hnd, by simp, fun a ha c hc e1 => ?_⟩
          simp only [List.mem_singleton] at hc
          obtain ⟨y, hy, rfl⟩ := List.mem_map.1 ha
          have := hborn y hy
          omega) (by simp)
      have hmod : (es.push ⟨vK x, .int .i64 0, clock⟩).modify es.size (fun e => { e with val := .int .i64 q }) = es.push ⟨vK x, .int .i64 q, clock⟩ := by
        apply Array.ext'
        rw [Array.toList_modify, Array.toList_push, Array.toList_push, ← Array.length_toList, WideElems.modify_last]
      rw [entryStore_run hb2 hidx, hmod]
    · refine ⟨_, _, setBlock_at hb2 _, ?_, ?_, ?_, upd_kok tb x hk ok, upd_dist tb x hd⟩
      · rw [upd_none tb x hno, Array.toList_push, List.map_append, hes, List.map_append]
        have : q = x.n := by omega
        rw [this]
        rfl
      · intro y hy
        rw [Array.toList_push] at hy
        rcases List.mem_append.1 hy with hy | hy
        · exact Nat.lt_succ_of_lt (hborn y hy)
        · rw [List.mem_singleton.1 hy]; exact Nat.lt_succ_self _
      · rw [Array.toList_push, List.map_append]
        refine List.nodup_append.2 ⟨hnd, by simp, fun a ha c hc e1 => ?_⟩
        simp only [List.map_cons, List.map_nil, List.mem_singleton] at hc
        obtain ⟨y, hy, rfl⟩ := List.mem_map.1 ha
        have := hborn y hy
        omega
  · obtain ⟨y, hy, hyk, hyv⟩ := hget j e0 h2
    have hkx : y.key = x.key := vK_key.1 (by rw [← hyk, h3])
    have hbef : ∀ i, i < j → ∀ z, tb[i]? = some z → z.key ≠ x.key := by
      intro i hi z hz e
      have := List.pairwise_iff_getElem.1 hd i j (List.getElem?_eq_some_iff.1 hz).1 (List.getElem?_eq_some_iff.1 hy).1 hi
      rw [(List.getElem?_eq_some_iff.1 hz).2, (List.getElem?_eq_some_iff.1 hy).2] at this
      exact this (e.trans hkx.symm)
    obtain ⟨hup, hat⟩ := upd_map tb x j y hy hbef hkx
    rw [hyv] at h1
    rw [hat]
    have hj : es[j]? = some e0 := by simpa using h2
    have hsame : es.modify j (fun e => { e with key := vK x }) = es := by
      apply Array.ext'
      rw [Array.toList_modify, ChangeMaps.modify_eq_set _ _ _ _ h2]
      have : ({ e0 with key := vK x } : MapEntry) = e0 := by rw [← h3]
      rw [this]
      exact WideElems.set_self _ _ _ h2
    have hb2 := setBlock_at hb (.map es clock)
    refine ⟨e0.born, setBlock w b (.map es clock), setBlock (setBlock w b (.map es clock)) b (.map (es.modify j (fun e => { e with val := .int .i64 (y.n + x.n) })) clock), ?_, ?_, ?_, ?_, only_setBlock _ _ _, (only_setBlock _ _ _).trans (only_setBlock _ _ _), ?_⟩
    · simp [Instr.mapEntry, run_underlying ht, MapKept.run_getObj_map hb, K.check w false hkey, h1, hj, h3, K.stays w hkey, hsame, MapKept.run_setObj_map _ hb, Result.andThen, setBlock]
    · simp [Instr.lookup, run_underlying ht, MapKept.run_getObj_map hb, K.check w _ hkey, h1, Result.andThen]
    · rcases K.find (setBlock w b (.map es clock)) hkey _ hall with ⟨_, h5⟩ | ⟨j', e0', h5, h6, h7⟩
      · exact absurd h3 (h5 e0 (List.mem_of_getElem? h2))
      · obtain ⟨y', hy', hyk', hyv'⟩ := hget j' e0' h6
        have hkx' : y'.key = x.key := vK_key.1 (by rw [← hyk', h7])
        have hjj : j' = j := by
          rcases Nat.lt_trichotomy j' j with q | q | q
          · exact absurd hkx' (hbef j' q y' hy')
          · exact q
          · have := List.pairwise_iff_getElem.1 hd j j' (List.getElem?_eq_some_iff.1 hy).1 (List.getElem?_eq_some_iff.1 hy').1 q
            rw [(List.getElem?_eq_some_iff.1 hy).2, (List.getElem?_eq_some_iff.1 hy').2] at this
            exact absurd (hkx.trans hkx'.symm) this
        subst hjj
        rw [hy] at hy'
        cases hy'
        rw [hyv'] at h5
        simp [Instr.lookup, run_underlying ht, MapKept.run_getObj_map hb2, K.check _ _ hkey, h5, Result.andThen]
    · have hidx : es.findIdx? (fun e => ((e.born : Nat) : Int) == ((e0.born : Nat) : Int)) = some j := by
        rw [WideElems.findIdx_arr]
        exact WideElems.findIdx_born hnd h2
      exact entryStore_run hb2 hidx
    · have hl : (es.modify j (fun e => { e with val := .int .i64 (y.n + x.n) })).toList = es.toList.set j { e0 with val := .int .i64 (y.n + x.n) } := by
        rw [Array.toList_modify, ChangeMaps.modify_eq_set _ _ _ _ h2]
      have hbs : (es.toList.set j { e0 with val := .int .i64 (y.n + x.n) }).map (·.born) = es.toList.map (·.born) := by
        rw [List.map_set]
        exact WideElems.set_self _ _ _ (by simp [h2])
      refine ⟨_, _, setBlock_at hb2 _, ?_, ?_, ?_, upd_kok tb x hk ok, upd_dist tb x hd⟩
      · rw [hl, hup, List.map_set, List.map_set, hes]
        have e1 : e0.key = vK y := hyk
        show (List.map _ tb).set j (e0.key, _) = _
        rw [e1]
      · rw [hl]
        intro z hz
        have : z.born ∈ (es.toList.set j { e0 with val := .int .i64 (y.n + x.n) }).map (·.born) := List.mem_map_of_mem hz
        rw [hbs] at this
        obtain ⟨z', hz', e⟩ := List.mem_map.1 this
        rw [← e]
        exact hborn z' hz'
      · rw [hl, hbs]; exact hnd
end Go.Proofs.Ytjmnncggjgmfdaa
