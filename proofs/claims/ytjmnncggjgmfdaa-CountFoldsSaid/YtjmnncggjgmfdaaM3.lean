/- A range over a map of counts. -/
import Derived.Test.YtjmnncggjgmfdaaM2
namespace Go.Proofs.Ytjmnncggjgmfdaa
open Go.RowKit Ws
open Go.ChangeMaps (setBlock)
set_option linter.unusedVariables false
set_option linter.unusedSimpArgs false

def Lft (es : Array MapEntry) (seen : Array Nat) (rs : List Dl) : Prop := (leftOf es seen).toList.map (fun e => (e.key, e.val)) = rs.map (fun x => (vK x, (.int .i64 x.n : Value)))

theorem left_push (es : Array MapEntry) (seen : Array Nat) (b : Nat) : (leftOf es (seen.push b)).toList = (leftOf es seen).toList.filter fun e => !(e.born == b) := by
  unfold leftOf
  rw [Array.toList_filter, Array.toList_filter, List.filter_filter]
  congr 1
  funext e
  rw [Array.contains_push]
  cases seen.contains e.born <;> cases (e.born == b) <;> rfl

theorem lft_take {es : Array MapEntry} {seen : Array Nat} {rs : List Dl} (h : Lft es seen rs) (hn : (es.toList.map (·.born)).Nodup) {e : MapEntry} (he : e ∈ (leftOf es seen).toList) :
    ∃ a y b, rs = a ++ y :: b ∧ e.key = vK y ∧ e.val = .int .i64 y.n ∧ Lft es (seen.push e.born) (a ++ b) := by
  have hnl : ((leftOf es seen).toList.map (·.born)).Nodup := by
    unfold leftOf
    rw [Array.toList_filter]
    exact hn.sublist ((List.filter_sublist).map _)
  have hp := left_push es seen e.born
  unfold Lft at h ⊢
  obtain ⟨A, B, hL⟩ := List.append_of_mem he
  rw [hL] at h hnl hp
  rw [List.map_append, List.map_cons] at h hnl
  obtain ⟨a, r, rfl, ha, hr⟩ := List.map_eq_append_iff.1 h.symm
  obtain ⟨y, b, rfl, hy, hb⟩ := List.map_eq_cons_iff.1 hr
  simp only [Prod.mk.injEq] at hy
  refine ⟨a, y, b, rfl, hy.1.symm, hy.2.symm, ?_⟩
  have h2 := List.nodup_append.1 hnl
  have h3 := List.nodup_cons.1 h2.2.1
  rw [hp, List.filter_append, List.filter_cons]
  simp only [beq_self_eq_true, Bool.not_true, Bool.false_eq_true, if_false]
  rw [List.filter_eq_self.2 (fun x hx => by
    have := h2.2.2 x.born (List.mem_map_of_mem hx) e.born List.mem_cons_self
    simp [this]), List.filter_eq_self.2 (fun x hx => by
    have : x.born ≠ e.born := fun q => h3.1 (q ▸ List.mem_map_of_mem hx)
    simp [this])]
  rw [List.map_append, List.map_append, ha, hb]

def RngAt (w : World) (b r : Nat) (rs : List Dl) : Prop := ∃ es clock seen, w.heap[b]? = some (.map es clock) ∧ w.heap[r]? = some (.mapIter (some b) clock seen clock) ∧
  (∀ x ∈ es.toList, x.born < clock) ∧ (es.toList.map (·.born)).Nodup ∧ Lft es seen rs

theorem heap_lt {w : World} {b : Nat} {o : Obj} (h : w.heap[b]? = some o) : b < w.heap.size := by
  rcases Nat.lt_or_ge b w.heap.size with hlt | hge
  · exact hlt
  · rw [Array.getElem?_eq_none hge] at h; cases h

theorem RngAt.same {w w' : World} {b r : Nat} {rs : List Dl} (h : RngAt w b r rs) (hs : Same w w') : RngAt w' b r rs := by
  obtain ⟨es, clock, seen, h1, h2, h3⟩ := h
  exact ⟨es, clock, seen, (hs.block b (heap_lt h1)).trans h1, (hs.block r (heap_lt h2)).trans h2, h3⟩
theorem RngAt.grown {w w' : World} {b r : Nat} {rs : List Dl} (h : RngAt w b r rs) {g : Option Nat} (hs : w.grownBy w' g) (hb : some b ≠ g) (hr : some r ≠ g) : RngAt w' b r rs := by
  obtain ⟨es, clock, seen, h1, h2, h3⟩ := h
  exact ⟨es, clock, seen, (hs.block b (heap_lt h1) hb).trans h1, (hs.block r (heap_lt h2) hr).trans h2, h3⟩
theorem RngAt.lt {w : World} {b r : Nat} {rs : List Dl} (h : RngAt w b r rs) : b < w.heap.size ∧ r < w.heap.size ∧ b ≠ r := by
  obtain ⟨es, clock, seen, h1, h2, h3⟩ := h
  refine ⟨heap_lt h1, heap_lt h2, ?_⟩
  rintro rfl
  rw [h1] at h2
  cases h2

theorem rng_start {w : World} {b : Nat} {tb : List Dl} (h : MapAt w b tb) : ∃ o, (Instr.range 67 (.map (some b))).run Try.prog w = .ok (.pointer (some ⟨w.heap.size, 0, none⟩)) (w.alloc o) ∧ RngAt (w.alloc o) b w.heap.size tb := by
  obtain ⟨es, clock, hb, hes, hborn, hnd, hk, hd⟩ := h
  have ht : Try.prog.underlying 67 = some (.map 72 2) := by kernel_rfl
  refine ⟨.mapIter (some b) clock #[] clock, ?_, es, clock, #[], ?_, heap_alloc_new w _, hborn, hnd, ?_⟩
  · simp [Instr.range, run_underlying ht, MapKept.run_getObj_map hb, Result.andThen, newObj, Sem.run]
  · exact (Below.heap_alloc w _ b (heap_lt hb)).trans hb
  · have hL : (leftOf es #[]).toList = es.toList := by
      unfold leftOf
      rw [Array.toList_filter]
      exact List.filter_eq_self.2 (fun x hx => by simp)
    unfold Lft
    rw [hL]
    exact hes

theorem rng_next {w : World} {b r : Nat} {rs : List Dl} (h : RngAt w b r rs) (ty : TypeId) :
    (rs = [] ∧ (Instr.next (.pointer (some ⟨r, 0, none⟩)) false ty).run Try.prog w = .ok (.tuple #[.bool false]) w) ∨
    ∃ a y c w1, rs = a ++ y :: c ∧ (Instr.next (.pointer (some ⟨r, 0, none⟩)) false ty).run Try.prog w = .ok (.tuple #[.bool true, vK y, .int .i64 y.n]) w1 ∧
      RngAt w1 b r (a ++ c) ∧ Only w w1 r ∧ (Instr.entry (.pointer (some ⟨r, 0, none⟩))).run Try.prog w1 = .ok (.tuple #[vK y, .int .i64 y.n]) w1 := by
  obtain ⟨hl1, hl2, hne⟩ := h.lt
  obtain ⟨es, clock, seen, h1, h2, h3, h4, h5⟩ := h
  rcases run_next_at (P := Try.prog) w ty r b clock clock seen es clock h2 h1 h3 (Nat.le_refl _) with ⟨hz, hr⟩ | ⟨e, he, w1, hw1, hr⟩
  · left
    refine ⟨?_, hr⟩
    have : (leftOf es seen).toList = [] := by
      have : (leftOf es seen).toList.length = 0 := hz
      exact List.length_eq_zero_iff.1 this
    unfold Lft at h5
    rw [this] at h5
    exact List.map_eq_nil_iff.1 h5.symm
  · right
    obtain ⟨a, y, c, hrs, hk, hv, h6⟩ := lft_take h5 h4 he
    rw [hk, hv] at hr
    have g1 : w1.heap[b]? = some (.map es clock) := by rcases hw1 with rfl | rfl <;> exact h1
    have g2 : w1.heap[r]? = some (.mapIter (some b) clock seen clock) := by rcases hw1 with rfl | rfl <;> exact h2
    have g3 : Only w w1 r := by
      rcases hw1 with rfl | rfl
      · exact Only.refl _ _
      · exact (Only.refl _ _).drew
    have g4 := setBlock_at g2 (.mapIter (some b) clock (seen.push e.born) clock)
    have g5 : (setBlock w1 r (.mapIter (some b) clock (seen.push e.born) clock)).heap[b]? = some (.map es clock) := by
      rw [← g1]
      exact (only_setBlock w1 r (.mapIter (some b) clock (seen.push e.born) clock)).block b (heap_lt g1) (fun q => hne (Option.some.inj q))
    refine ⟨a, y, c, _, hrs, hr, ⟨es, clock, seen.push e.born, g5, g4, h3, h4, h6⟩, g3.trans (only_setBlock _ _ _), ?_⟩
    have := run_entry_at (P := Try.prog) (setBlock w1 r (.mapIter (some b) clock (seen.push e.born) clock)) r b clock seen es clock e g4 g5 (mem_left he).1 h4
    rw [hk, hv] at this
    exact this
end Go.Proofs.Ytjmnncggjgmfdaa
