/- pure: counts do not hang on their order -/
import Derived.Test.YtjmnncggjgmfdaaWp3

namespace Go.Proofs.Ytjmnncggjgmfdaa.Ws
set_option linter.unusedVariables false
set_option linter.unusedSimpArgs false

def cnt : List Dl → Int × Tm → Int
  | [], _ => 0
  | x :: xs, k => (if x.key = k then x.n else 0) + cnt xs k
def hasK (l : List Dl) (k : Int × Tm) : Prop := ∃ x ∈ l, x.key = k

theorem cnt_ins (A : List Dl) (d : Dl) (k : Int × Tm) : cnt (ins A d) k = cnt A k + if d.key = k then d.n else 0 := by
  induction A with
  | nil => simp only [ins, cnt]; omega
  | cons a A ih =>
    simp only [ins]
    split
    · rename_i h
      have hk := Dl.cmp_zero.1 h
      simp only [cnt]
      rw [show ({ a with n := a.n + d.n } : Dl).key = a.key from rfl, ← hk]
      by_cases q : a.key = k <;> simp only [q, if_true, if_false] <;> omega
    · split
      · simp only [cnt, ih]; omega
      · simp only [cnt]; omega
theorem has_ins (A : List Dl) (d : Dl) (k : Int × Tm) : hasK (ins A d) k ↔ hasK A k ∨ d.key = k := by
  unfold hasK
  induction A with
  | nil => simp [ins]
  | cons a A ih =>
    simp only [ins]
    split
    · rename_i h
      have hk := Dl.cmp_zero.1 h
      simp only [List.mem_cons, exists_eq_or_imp, key_add, hk]
      constructor
      · rintro (h | h)
        · exact .inr h
        · exact .inl (.inr h)
      · rintro ((h | h) | h)
        · exact .inl h
        · exact .inr h
        · exact .inl h
    · split
      · simp only [List.mem_cons, exists_eq_or_imp, ih]; exact or_assoc.symm
      · simp only [List.mem_cons, exists_eq_or_imp]
        constructor
        · rintro (h | h)
          · exact .inr h
          · exact .inl h
        · rintro (h | h)
          · exact .inr h
          · exact .inl h

theorem cnt_no {A : List Dl} {k : Int × Tm} (h : ∀ x ∈ A, x.key ≠ k) : cnt A k = 0 := by
  induction A with
  | nil => rfl
  | cons a A ih => simp only [cnt, if_neg (h a List.mem_cons_self), ih fun x hx => h x (List.mem_cons_of_mem _ hx)]; rfl

theorem Dl.ext_key {x y : Dl} (h : x.key = y.key) (hn : x.n = y.n) : x = y := by
  cases x; cases y; simp only [Dl.key, Prod.mk.injEq] at h; obtain ⟨h1, h2⟩ := h; subst h1; subst h2; subst hn; rfl

theorem srt_ext : ∀ {A B : List Dl}, Srt A → Srt B → (∀ k, hasK A k ↔ hasK B k) → (∀ k, cnt A k = cnt B k) → A = B
  | [], [], _, _, _, _ => rfl
  | [], b :: B, _, _, h, _ => by have := (h b.key).2 ⟨b, List.mem_cons_self, rfl⟩; obtain ⟨x, hx, _⟩ := this; cases hx
  | a :: A, [], _, _, h, _ => by have := (h a.key).1 ⟨a, List.mem_cons_self, rfl⟩; obtain ⟨x, hx, _⟩ := this; cases hx
  | a :: A, b :: B, hA, hB, h, hc => by
    have ⟨a1, a2⟩ := List.pairwise_cons.1 hA
    have ⟨b1, b2⟩ := List.pairwise_cons.1 hB
    have hk : a.key = b.key := by
      obtain ⟨x, hx, hxk⟩ := (h a.key).1 ⟨a, List.mem_cons_self, rfl⟩
      obtain ⟨y, hy, hyk⟩ := (h b.key).2 ⟨b, List.mem_cons_self, rfl⟩
      rcases List.mem_cons.1 hx with rfl | hx
      · exact hxk.symm
      · rcases List.mem_cons.1 hy with rfl | hy
        · exact hyk
        · have e1 := b1 x hx
          have e2 := a1 y hy
          rw [Dl.cmp_key (x' := b) (y' := a) rfl hxk] at e1
          rw [Dl.cmp_key (x' := a) (y' := b) rfl hyk] at e2
          exact absurd e1 (Dl.cmp_asymm e2)
    have na : ∀ x ∈ A, x.key ≠ a.key := fun x hx q => by have := a1 x hx; rw [Dl.cmp_zero.2 q.symm] at this; omega
    have nb : ∀ x ∈ B, x.key ≠ b.key := fun x hx q => by have := b1 x hx; rw [Dl.cmp_zero.2 q.symm] at this; omega
    have hn : a.n = b.n := by
      have := hc a.key
      simp only [cnt, if_true, ← hk, cnt_no na, cnt_no (hk ▸ nb)] at this
      omega
    have hab := Dl.ext_key hk hn
    subst hab
    congr 1
    refine srt_ext a2 b2 (fun k => ?_) fun k => ?_
    · have := h k
      constructor
      · rintro ⟨x, hx, hxk⟩
        obtain ⟨y, hy, hyk⟩ := this.1 ⟨x, List.mem_cons_of_mem _ hx, hxk⟩
        rcases List.mem_cons.1 hy with rfl | hy
        · exact absurd (hxk.trans hyk.symm) (na x hx)
        · exact ⟨y, hy, hyk⟩
      · rintro ⟨x, hx, hxk⟩
        obtain ⟨y, hy, hyk⟩ := this.2 ⟨x, List.mem_cons_of_mem _ hx, hxk⟩
        rcases List.mem_cons.1 hy with rfl | hy
        · exact absurd (hxk.trans hyk.symm) (nb x hx)
        · exact ⟨y, hy, hyk⟩
    · have := hc k
      simp only [cnt] at this
      omega

theorem cnt_foldl (l : List Dl) (k : Int × Tm) : ∀ A, cnt (l.foldl ins A) k = cnt A k + cnt l k := by
  induction l with
  | nil => intro A; simp [cnt]
  | cons a l ih => intro A; simp only [List.foldl_cons, ih, cnt_ins, cnt]; omega
theorem has_foldl (l : List Dl) (k : Int × Tm) : ∀ A, hasK (l.foldl ins A) k ↔ hasK A k ∨ hasK l k := by
  induction l with
  | nil => intro A; simp [hasK]
  | cons a l ih =>
    intro A
    simp only [List.foldl_cons, ih, has_ins]
    constructor
    · rintro ((h | h) | ⟨x, hx, h⟩)
      · exact .inl h
      · exact .inr ⟨a, List.mem_cons_self, h⟩
      · exact .inr ⟨x, List.mem_cons_of_mem _ hx, h⟩
    · rintro (h | ⟨x, hx, h⟩)
      · exact .inl (.inl h)
      · rcases List.mem_cons.1 hx with rfl | hx
        · exact .inl (.inr h)
        · exact .inr ⟨x, hx, h⟩
theorem sums_srt (l : List Dl) : Srt (sums l) := (upds_ins l [] [] (List.Perm.refl _) List.Pairwise.nil).2
theorem cnt_sums (l : List Dl) (k : Int × Tm) : cnt (sums l) k = cnt l k := by simp [sums, cnt_foldl, cnt]
theorem has_sums (l : List Dl) (k : Int × Tm) : hasK (sums l) k ↔ hasK l k := by
  simp only [sums, has_foldl]; simp [hasK]

theorem cnt_perm {l m : List Dl} (p : l.Perm m) (k : Int × Tm) : cnt l k = cnt m k := by
  induction p with
  | nil => rfl
  | cons x _ ih => simp [cnt, ih]
  | swap x y l => simp only [cnt]; omega
  | trans _ _ h1 h2 => exact h1.trans h2
theorem has_perm {l m : List Dl} (p : l.Perm m) (k : Int × Tm) : hasK l k ↔ hasK m k := by
  unfold hasK
  exact ⟨fun ⟨x, hx, h⟩ => ⟨x, p.mem_iff.1 hx, h⟩, fun ⟨x, hx, h⟩ => ⟨x, p.mem_iff.2 hx, h⟩⟩
theorem sums_perm {l m : List Dl} (p : l.Perm m) : sums l = sums m :=
  srt_ext (sums_srt l) (sums_srt m) (fun k => by rw [has_sums, has_sums]; exact has_perm p k) fun k => by rw [cnt_sums, cnt_sums]; exact cnt_perm p k
theorem sums_self {l : List Dl} (h : Srt l) : sums l = l :=
  srt_ext (sums_srt l) h (has_sums l) (cnt_sums l)

theorem errs_of {l : List Dl} (h : ∀ x ∈ l, x.check = 0) : errs l = 0 := by
  induction l with
  | nil => rfl
  | cons a l ih => simp only [errs, h a List.mem_cons_self, if_true]; exact ih fun x hx => h x (List.mem_cons_of_mem _ hx)

theorem fold_ok {l : List Dl} (h : (fold l).2 = 0) : l.length ≤ 4096 ∧ errs l = 0 ∧ (∀ x ∈ sums l, okN x.n) ∧ (live (sums l)).length ≤ 256 ∧ (fold l).1 = live (sums l) := by
  have h2 := fold_errs h
  unfold fold at h ⊢
  by_cases h1 : 4096 < l.length
  · simp [h1] at h
  · by_cases h3 : ∀ x ∈ sums l, okN x.n
    · by_cases h4 : 256 < (live (sums l)).length
      · rw [if_neg h1, if_pos h2, if_pos h3, if_pos h4] at h; simp at h
      · rw [if_neg h1, if_pos h2, if_pos h3, if_neg h4]
        exact ⟨by omega, h2, h3, by omega, rfl⟩
    · rw [if_neg h1, if_pos h2, if_neg h3] at h; simp at h

theorem fold_perm {l m : List Dl} (p : l.Perm m) (h : (fold l).2 = 0) : fold m = fold l := by
  obtain ⟨h1, h2, h3, h4, _⟩ := fold_ok h
  have e2 : errs m = 0 := errs_of fun x hx => errs_zero h2 x (p.mem_iff.2 hx)
  have hl := p.length_eq
  have hs := sums_perm p
  unfold fold
  rw [if_neg (show ¬ 4096 < m.length by omega), if_neg (show ¬ 4096 < l.length by omega), if_pos e2, if_pos h2, ← hs]

theorem sums_check {l : List Dl} (h : errs l = 0) (hn : ∀ x ∈ sums l, okN x.n) : ∀ x ∈ sums l, x.check = 0 := by
  intro x hx
  obtain ⟨y, hy, hk⟩ := (has_sums l x.key).1 ⟨x, hx, rfl⟩
  obtain ⟨h1, h2, h3, _⟩ := check_zero (errs_zero h y hy)
  simp only [Dl.key, Prod.mk.injEq] at hk
  unfold Dl.check
  rw [← hk.1, ← hk.2, if_neg (by omega), if_pos h3, if_pos (hn x hx)]

/-- What was counted is counts. -/
theorem right_fold {l : List Dl} (h : (fold l).2 = 0) : right (fold l).1 = true := by
  obtain ⟨h1, h2, h3, h4, h5⟩ := fold_ok h
  rw [h5]
  have hs : Srt (live (sums l)) := (sums_srt l).filter _
  have hss := sums_self hs
  have hn : ∀ x ∈ live (sums l), okN x.n := fun x hx => h3 x (List.mem_filter.1 hx).1
  have he : errs (live (sums l)) = 0 := errs_of fun x hx => sums_check h2 h3 x (List.mem_filter.1 hx).1
  have hll : live (live (sums l)) = live (sums l) := by unfold live; rw [List.filter_filter]; congr 1; funext x; simp
  simp only [right, decide_eq_true_eq, fold, hss, hll]
  rw [if_neg (by omega), if_pos he, if_pos hn, if_neg (by omega)]
  exact ⟨rfl, rfl⟩

/-- with what takes it away again -/
def both : List Dl → List Dl
  | [] => []
  | x :: xs => x :: { x with n := -x.n } :: both xs
theorem both_len (l : List Dl) : (both l).length = 2 * l.length := by induction l with
  | nil => rfl
  | cons a l ih => simp only [both, List.length_cons, ih]; omega
theorem cnt_both (l : List Dl) (k : Int × Tm) : cnt (both l) k = 0 := by
  induction l with
  | nil => rfl
  | cons a l ih =>
    have : ({ a with n := -a.n } : Dl).key = a.key := rfl
    simp only [both, cnt, ih, this]; split <;> omega
theorem mem_cnt {A : List Dl} (h : Srt A) {x : Dl} (hx : x ∈ A) : x.n = cnt A x.key := by
  induction A with
  | nil => cases hx
  | cons a A ih =>
    have ⟨a1, a2⟩ := List.pairwise_cons.1 h
    have na : ∀ y ∈ A, y.key ≠ a.key := fun y hy q => by have := a1 y hy; rw [Dl.cmp_zero.2 q.symm] at this; omega
    rcases List.mem_cons.1 hx with rfl | hx
    · simp only [cnt, if_true, cnt_no na]; omega
    · have : ¬ a.key = x.key := fun q => na x hx q.symm
      simp only [cnt, if_neg this, ih a2 hx]; omega
theorem fold_both {l : List Dl} (h : ∀ x ∈ l, x.check = 0) (hl : l.length ≤ 256) : fold (both l) = ([], 0) := by
  have hz : ∀ x ∈ sums (both l), x.n = 0 := fun x hx => by rw [mem_cnt (sums_srt _) hx, cnt_sums, cnt_both]
  have hlive : live (sums (both l)) = [] := by unfold live; rw [List.filter_eq_nil_iff]; intro x hx; simp [hz x hx]
  have he : errs (both l) = 0 := by
    refine errs_of ?_
    clear hz hlive hl
    induction l with
    | nil => intro x hx; cases hx
    | cons a l ih =>
      intro x hx
      simp only [both, List.mem_cons] at hx
      obtain ⟨h1, h2, h3, h4⟩ := check_zero (h a List.mem_cons_self)
      rcases hx with rfl | rfl | hx
      · exact h _ List.mem_cons_self
      · unfold Dl.check
        have : okN (-a.n) := by unfold okN at *; omega
        simp only []
        rw [if_neg (by omega), if_pos h3, if_pos this]
      · exact ih (fun y hy => h y (List.mem_cons_of_mem _ hy)) x hx
  have hlen := both_len l
  unfold fold
  rw [if_neg (by omega), if_pos he, if_pos (fun x hx => by rw [hz x hx]; decide), hlive]
  rfl

theorem fold_all_check {l : List Dl} (h : (fold l).2 = 0) : ∀ x ∈ (fold l).1, x.check = 0 := by
  obtain ⟨h1, h2, h3, h4, h5⟩ := fold_ok h
  rw [h5]
  exact fun x hx => sums_check h2 h3 x (List.mem_filter.1 hx).1

end Go.Proofs.Ytjmnncggjgmfdaa.Ws
