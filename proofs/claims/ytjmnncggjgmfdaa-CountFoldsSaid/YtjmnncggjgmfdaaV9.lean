/- A slice of counts of one's own. -/
import Derived.Test.YtjmnncggjgmfdaaV8
namespace Go.Proofs.Ytjmnncggjgmfdaa
open Go.RowKit Ws
set_option linter.unusedVariables false
set_option linter.unusedSimpArgs false

set_option maxRecDepth 20000 in
set_option maxHeartbeats 1000000 in
theorem own_any (v : Value) (l : List Dl) (w : World) (hv : Rd w 7 encD v l) (hlen : l.length ≤ 1000000) : Calls Try.prog 5 #[v] w fun r w' => ∃ u, r = .returned u ∧ Own w' w.heap.size 69 7 encD u l ∧ Same w w' := by
  have HR := Lib.hid hv
  obtain ⟨A, c, rfl, hc⟩ := hv.len
  clear hv
  go_enter Try.func5, Try.ntmps5
  have HO : Hid (Own (w.alloc (.cells #[] 69)) w.heap.size 69 7 encD (.slice (some ⟨w.heap.size, 0, none⟩) 0 0) ([] : List Dl)) :=
    ⟨rfl, .inr ⟨w.heap.size, 0, #[], rfl, Nat.le_refl _, heap_alloc_new w _, Nat.le_refl _, by decide, rfl, rfl⟩⟩
  have HR2 := Lib.hid (HR.out.alloc (.cells #[] 69))
  go_wp2_with (at_builtin; refine appN (w.alloc (.cells #[] 69)) w.heap.size rfl (.tmp 3) (.tmp 4) 22 69 _ 7 48 rfl Try.underlying22 infoD rfl (by decide) (by decide) encD (fun _ => rfl) (fun x u hu => by simp [encD] at hu; rcases hu with rfl | rfl | rfl | rfl | rfl | rfl | rfl <;> rfl) (.slice (some ⟨w.heap.size, 0, none⟩) 0 0) (.slice A l.length c) [] l rfl rfl HO.out HR2.out (by simp) (by simp; omega) ?_; intro v1 w1 hown1 hg1 hat1; have HO1 := Lib.hid hown1; clear hown1; have HG1 := Lib.hid hg1; clear hg1 hat1)
  go_ret
  refine ⟨v1, rfl, ?_, ?_⟩
  · have := HO1.out
    rwa [List.nil_append] at this
  · exact Below.grown ((Same.refl w).alloc _) HG1.out (by simp) (fun k hk => by have := Option.some.inj hk; simp at this; omega)
end Go.Proofs.Ytjmnncggjgmfdaa
