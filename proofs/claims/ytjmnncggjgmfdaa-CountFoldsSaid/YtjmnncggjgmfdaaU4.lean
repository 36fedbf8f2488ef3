/- The walk of the reference's order of times. -/
import Derived.Test.YtjmnncggjgmfdaaU3
namespace Go.Proofs.Ytjmnncggjgmfdaa
open Go.RowKit Ws
set_option linter.unusedVariables false
set_option linter.unusedSimpArgs false

theorem quietA {P : Program} {f : FuncId} {args : Array Value} {w : World} {a n : Nat} {v : Value} (h : Calls P f args (w.drewN (a + n)) fun e w' => e = .returned v ∧ w.drewN (a + n) = w') :
    Calls P f args (w.drewN (a + n)) fun e w'' => e = .returned v ∧ ∃ m, w'' = w.drewN (a + m) := h.mono fun _ _ ⟨h1, h2⟩ => ⟨h1, n, h2.symm⟩

/-- The frame of an order: the test that decides, and what it comes to. -/
theorem tcmp_cases (x y : Tm) : (x.d < y.d ∧ x.cmp y = -1) ∨ (y.d < x.d ∧ x.cmp y = 1) ∨ (x.d = y.d ∧ ((x.e ≠ y.e ∧ x.cmp y = cmp3 x.e y.e) ∨ (x.e = y.e ∧ ((x.a ≠ y.a ∧ x.cmp y = cmp3 x.a y.a) ∨ (x.a = y.a ∧
    ((x.b ≠ y.b ∧ x.cmp y = cmp3 x.b y.b) ∨ (x.b = y.b ∧ ((x.c ≠ y.c ∧ x.cmp y = cmp3 x.c y.c) ∨ (x.c = y.c ∧ x.cmp y = 0))))))))) := by
  rcases Int.lt_trichotomy x.d y.d with h | h | h
  · exact .inl ⟨h, by simp [Tm.cmp, or0, cmp3, h]⟩
  · refine .inr (.inr ⟨h, ?_⟩)
    have h0 : cmp3 x.d y.d = 0 := cmp3_zero.2 h
    by_cases h1 : x.e = y.e
    · refine .inr ⟨h1, ?_⟩
      have h1 := cmp3_zero.2 h1
      by_cases h2 : x.a = y.a
      · refine .inr ⟨h2, ?_⟩
        have h2 := cmp3_zero.2 h2
        by_cases h3 : x.b = y.b
        · refine .inr ⟨h3, ?_⟩
          have h3 := cmp3_zero.2 h3
          by_cases h4 : x.c = y.c
          · exact .inr ⟨h4, by simp [Tm.cmp, or0, h0, h1, h2, h3, cmp3_zero.2 h4]⟩
          · exact .inl ⟨h4, by simp [Tm.cmp, or0, h0, h1, h2, h3]⟩
        · refine .inl ⟨h3, ?_⟩
          have h3 : cmp3 x.b y.b ≠ 0 := fun q => h3 (cmp3_zero.1 q)
          simp [Tm.cmp, or0, h0, h1, h2, h3]
      · refine .inl ⟨h2, ?_⟩
        have h2 : cmp3 x.a y.a ≠ 0 := fun q => h2 (cmp3_zero.1 q)
        simp [Tm.cmp, or0, h0, h1, h2]
    · refine .inl ⟨h1, ?_⟩
      have h1 : cmp3 x.e y.e ≠ 0 := fun q => h1 (cmp3_zero.1 q)
      simp [Tm.cmp, or0, h0, h1]
  · exact .inr (.inl ⟨h, by have h' : ¬ x.d < y.d := by omega
                            simp [Tm.cmp, or0, cmp3, h, h']⟩)

set_option maxRecDepth 20000 in
set_option maxHeartbeats 2000000 in
theorem tcmp04 (x y : Tm) (w : World) : Calls Try.prog 66 #[vT x, vT y] w fun r w' => r = .returned (.int .i64 (x.cmp y)) ∧ Same w w' := by
  have H2 := Lib.hid (fun W => order04 x.e y.e W)
  have H3 := Lib.hid (fun W => order04 x.a y.a W)
  have H4 := Lib.hid (fun W => order04 x.b y.b W)
  have H5 := Lib.hid (fun W => order04 x.c y.c W)
  have hc := tcmp_cases x y
  generalize x.cmp y = res at hc ⊢
  generalize cmp3 x.e y.e = m2 at hc H2
  generalize cmp3 x.a y.a = m3 at hc H3
  generalize cmp3 x.b y.b = m4 at hc H4
  generalize cmp3 x.c y.c = m5 at hc H5
  obtain ⟨e, d, a, b, c⟩ := x
  obtain ⟨e', d', a', b', c'⟩ := y
  simp only at hc H2 H3 H4 H5
  rcases hc with ⟨h, rfl⟩ | ⟨h, rfl⟩ | ⟨rfl, hc⟩
  · go_enter Try.func66, Try.ntmps66
    go_wp2
    go_ret
    exact ⟨rfl, ((Same.refl _).alloc _).alloc _⟩
  · go_enter Try.func66, Try.ntmps66
    go_wp2
    go_ret
    exact ⟨rfl, ((Same.refl _).alloc _).alloc _⟩
  rcases hc with ⟨h, rfl⟩ | ⟨rfl, hc⟩
  · have hn : (e != e') = true := by simp [h]
    have hn2 : (e == e') = false := by simp [h]
    clear h
    go_enter Try.func66, Try.ntmps66
    go_wp2_with fail
    refine (H2.out _).mono ?_
    rintro r w' ⟨rfl, rfl⟩
    go_wp2_with fail
    go_ret
    exact ⟨rfl, ((Same.refl _).alloc _).alloc _⟩
  rcases hc with ⟨h, rfl⟩ | ⟨rfl, hc⟩
  · have hn : (a != a') = true := by simp [h]
    have hn2 : (a == a') = false := by simp [h]
    clear h
    go_enter Try.func66, Try.ntmps66
    go_wp2_with fail
    refine wp_loop_rounds 4 ?_
    rw [rounds_succ]
    go_wp2_with fail
    go_quiet (fail)
    go_wp2_with fail
    go_quiet ((go_at_call 85; first | exact quietA (H3.out _) | exact Calls.quiet_of_same (quietL (H3.out _))))
    go_wp2_with fail
    go_ret
    exact ⟨rfl, by repeat (first | exact ((Same.refl _).alloc _).alloc _ | refine Same.drewN ?_ _)⟩
  rcases hc with ⟨h, rfl⟩ | ⟨rfl, hc⟩
  · have hn : (b != b') = true := by simp [h]
    have hn2 : (b == b') = false := by simp [h]
    clear h
    go_enter Try.func66, Try.ntmps66
    go_wp2_with fail
    refine wp_loop_rounds 4 ?_
    rw [rounds_succ]
    go_wp2_with fail
    go_quiet (fail)
    go_wp2_with fail
    rw [rounds_succ]
    go_wp2_with fail
    go_quiet (fail)
    go_wp2_with fail
    go_quiet ((go_at_call 85; first | exact quietA (H4.out _) | exact Calls.quiet_of_same (quietL (H4.out _))))
    go_wp2_with fail
    go_ret
    exact ⟨rfl, by repeat (first | exact ((Same.refl _).alloc _).alloc _ | refine Same.drewN ?_ _)⟩
  rcases hc with ⟨h, rfl⟩ | ⟨rfl, rfl⟩
  · have hn : (c != c') = true := by simp [h]
    have hn2 : (c == c') = false := by simp [h]
    clear h
    go_enter Try.func66, Try.ntmps66
    go_wp2_with fail
    refine wp_loop_rounds 4 ?_
    rw [rounds_succ]
    go_wp2_with fail
    go_quiet (fail)
    go_wp2_with fail
    rw [rounds_succ]
    go_wp2_with fail
    go_quiet (fail)
    go_wp2_with fail
    rw [rounds_succ]
    go_wp2_with fail
    go_quiet (fail)
    go_wp2_with fail
    go_quiet ((go_at_call 85; first | exact quietA (H5.out _) | exact Calls.quiet_of_same (quietL (H5.out _))))
    go_wp2_with fail
    go_ret
    exact ⟨rfl, by repeat (first | exact ((Same.refl _).alloc _).alloc _ | refine Same.drewN ?_ _)⟩
  go_enter Try.func66, Try.ntmps66
  go_wp2_with fail
  refine wp_loop_rounds 4 ?_
  rw [rounds_succ]
  go_wp2_with fail
  go_quiet (fail)
  go_wp2_with fail
  rw [rounds_succ]
  go_wp2_with fail
  go_quiet (fail)
  go_wp2_with fail
  rw [rounds_succ]
  go_wp2_with fail
  go_quiet (fail)
  go_wp2_with fail
  rw [rounds_succ]
  go_wp2_with fail
  go_ret
  exact ⟨rfl, by repeat (first | exact ((Same.refl _).alloc _).alloc _ | refine Same.drewN ?_ _)⟩
end Go.Proofs.Ytjmnncggjgmfdaa
