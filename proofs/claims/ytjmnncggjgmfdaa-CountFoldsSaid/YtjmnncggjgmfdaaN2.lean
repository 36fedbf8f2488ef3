/- Counts, sorted. -/
import Derived.Test.YtjmnncggjgmfdaaN1
import Derived.Test.YtjmnncggjgmfdaaN0
import Derived.Shelf.SlSortCmp.WholeK
import Derived.Shelf.SlSortCmp.NoneTotal
import Derived.Ground.SlsfProg
namespace Go.Proofs.Ytjmnncggjgmfdaa
open Go.Shelf Go.RowKit Ws
set_option linter.unusedVariables false
set_option linter.unusedSimpArgs false

instance : Inhabited Dl := ⟨⟨0, Tm.zero, 0⟩⟩

theorem dswo : Go.Sort.SWO (ltOf Dl.cmp) :=
  ⟨fun x => by
    unfold ltOf
    simp only [decide_eq_false_iff_not]
    intro h
    exact Dl.cmp_asymm h h,
  fun x y z h1 h2 => by
    unfold ltOf at *
    simp only [decide_eq_true_eq] at *
    exact Dl.cmp_trans h1 h2,
  fun x y z h1 h2 => by
    unfold ltOf at *
    simp only [decide_eq_false_iff_not] at *
    intro h3
    by_cases h4 : z.cmp y < 0
    · exact h1 (Dl.cmp_trans h3 h4)
    · have hk := Dl.cmp_total h2 h4
      rw [← Dl.cmp_key (x := x) (x' := x) rfl hk] at h3
      exact h1 h3⟩

theorem cmpLaysD (blk off size : Nat) (w : World) : CmpLays Try.prog 30 #[] encD 7 Dl.cmp blk off size w := by
  intro m os dk _ x y
  show Calls _ _ #[vD x, vD y] _ _
  exact (dcmp x y _).mono fun e w' h => ⟨h.1, grw_of h.2.1 h.2.2⟩

theorem flat_at (xs : List Dl) (j : Nat) (hj : j < xs.length * 7) : (xs.flatMap encD)[j]? = some (Go.Sort.flatK encD 7 xs.toArray)[j]! := by
  have h1 : j / 7 < xs.length := by omega
  have h2 : j % 7 < 7 := Nat.mod_lt _ (by decide)
  rw [Go.Sort.get_flatK encD 7 xs.toArray j (by simpa using hj)]
  have hx : xs[j / 7]? = some xs[j / 7] := List.getElem?_eq_getElem h1
  have he : xs.toArray[j / 7]! = xs[j / 7] := by simp [h1]
  rw [he]
  have hu : (encD xs[j / 7])[j % 7]? = some (encD xs[j / 7])[j % 7]! := by
    rw [List.getElem?_eq_getElem (by simpa using h2), List.getElem!_eq_getElem?_getD, List.getElem?_eq_getElem (by simpa using h2)]
    rfl
  have := flat_get (enc := encD) (k := 7) (fun _ => rfl) xs (j / 7) _ (j % 7) _ hx hu
  rwa [show j / 7 * 7 + j % 7 = j by omega] at this

set_option maxRecDepth 20000 in
set_option maxHeartbeats 1000000 in
theorem sort_ok : SortOk := by
  intro v xs w B hO hlen
  have hO' := hO
  obtain ⟨hl, ⟨rfl, h0⟩ | ⟨g, cap, cur, rfl, hB, hg, hnc, hcm, hcs, htk⟩⟩ := hO
  · have hx : xs = [] := List.length_eq_zero_iff.1 h0
    subst hx
    refine (AnyF.slices_SortFunc_none sortD none 0 _ w).mono ?_
    rintro e w' ⟨rfl, rfl⟩
    exact ⟨rfl, [], List.Perm.refl _, List.Pairwise.nil, hO', World.grownBy.refl _ _⟩
  · have eg : ∀ args w, (callFunc 30 args).run Try.prog w = .ok (.enter 30 args) w := enters_of Try.func30 (by kernel_rfl) rfl
    have hH : Go.Sort.HoldsK encD 7 w g 0 xs.toArray := by
      intro j hj
      have hj' : j < xs.length * 7 := by simpa using hj
      rw [Nat.zero_add]
      exact ⟨by rw [World.ownsRow.cellAt hO' j hj', flat_at xs j hj']; rfl, World.ownsRow.frozenAt hO' j⟩
    have hlt := heap_lt hg
    have hcon := AnyQ.slices_SortFunc sortD 7 Try.isAgg69 Try.sizeOf69 encD (fun _ => rfl) (fun x u hu => by simp [encD] at hu; rcases hu with rfl | rfl | rfl | rfl | rfl | rfl | rfl <;> rfl) Dl.cmp dswo 30 #[] g 0 cap xs.toArray w eg (cmpLaysD g 0 _ w) hH hlt (by simp; omega)
    refine Calls.mono hcon ?_
    rintro e w' ⟨rfl, d', n, os, hp, hs, rfl⟩
    obtain ⟨hp1, _, hp3⟩ := hp
    rw [← hp1, Array.extract_size] at hp3
    rw [hp1, Array.extract_size] at hp3
    have hdl : d'.toList.length = xs.length := by simpa using hp1
    refine ⟨rfl, d'.toList, hp3.symm, ?_, ⟨?_, .inr ⟨g, cap, Go.Sort.putCells id 0 (Go.Sort.flatK encD 7 d') cur, ?_, hB, ?_, ?_, hcm, ?_, ?_⟩⟩, ?_⟩
    · refine List.pairwise_iff_getElem.2 fun i j hi hj hij => ?_
      have := hs i j (Nat.zero_le _) hij (by rw [← hp1]; simpa using hj)
      unfold ltOf at this
      simp only [decide_eq_false_iff_not] at this
      rw [getElem!_pos d' j (by simpa using hj), getElem!_pos d' i (by simpa using hi)] at this
      simpa using this
    · exact flat_len (enc := encD) (k := 7) (fun _ => rfl) _
    · rw [hdl]
    · unfold sortWorldK Go.Sort.putRowK Go.Sort.putRow Go.Sort.mapBlock Go.Sort.grow Go.Sort.ahead
      simp only
      rw [Array.getElem?_append_left (by simpa using hlt), Array.getElem?_modify, if_pos rfl, hg]
      rfl
    · rw [hdl]; exact hnc
    · unfold Go.Sort.putCells; simpa using hcs
    · apply List.ext_getElem?
      intro j
      have hfl : (d'.toList.flatMap encD).length = d'.toList.length * 7 := flat_len (enc := encD) (k := 7) (fun _ => rfl) _
      rcases Nat.lt_or_ge j (d'.toList.length * 7) with hj | hj
      · have hjc : j < cur.size := by rw [hcs]; rw [hdl] at hj; omega
        rw [List.getElem?_take_of_lt hj, Array.getElem?_toList, flat_at _ _ hj]
        unfold Go.Sort.putCells
        rw [Array.getElem?_mapIdx, Array.getElem?_eq_getElem hjc]
        simp only [Option.map_some, Nat.zero_le, true_and, Nat.zero_add, Go.Sort.size_flatK, Nat.sub_zero, id]
        rw [if_pos (by simpa using hj)]
      · rw [List.getElem?_eq_none (l := d'.toList.flatMap encD) (by rw [hfl]; exact hj), List.getElem?_eq_none]
        rw [List.length_take]
        omega
    · unfold sortWorldK Go.Sort.putRowK Go.Sort.putRow Go.Sort.mapBlock Go.Sort.grow Go.Sort.ahead
      refine ⟨rfl, rfl, rfl, by simp, fun i hi hne => ?_⟩
      have hgi : g ≠ i := fun q => hne (by rw [q]; rfl)
      simp only
      rw [Array.getElem?_append_left (by simpa using hi), Array.getElem?_modify, if_neg hgi]
end Go.Proofs.Ytjmnncggjgmfdaa
