/- The walks of the reference's reading of times. -/
import Derived.Test.YtjmnncggjgmfdaaU7
namespace Go.Proofs.Ytjmnncggjgmfdaa
open Go.RowKit Ws
set_option linter.unusedVariables false
set_option linter.unusedSimpArgs false

theorem Rdf.alloc {w : World} {g : Nat} {st : Rs} (h : Rdf w g st) (o : Obj) : Rdf (w.alloc o) g st := by
  obtain ⟨s, p, h1, h2, h3, h4⟩ := h
  exact ⟨s, p, h1, h2, h3, h4.alloc o⟩
theorem Rdf.far {w : World} {g : Nat} {st : Rs} (h : Rdf w g st) {p : Addr} (hp : g ≠ p.block) (u : Value) : Rdf (w.setCell p u) g st := by
  obtain ⟨s, q, h1, h2, h3, h4⟩ := h
  exact ⟨s, q, h1, h2, h3, h4.far hp u⟩
theorem Rdf.cell2 {w : World} {g : Nat} {st : Rs} (h : Rdf w g st) : w.cell? ⟨g, 2, none⟩ = some (.int .i64 st.err) := by
  obtain ⟨s, q, h1, h2, h3, h4⟩ := h
  exact Bk.cell h4 2 _ rfl

set_option maxRecDepth 20000 in
set_option maxHeartbeats 1000000 in
theorem fread_0 (g : Nat) (st : Rs) (w : World) (h : Rdf w g st) (hb : st.rest.length ≤ 140737488351232) (s1 : Rs) (h0 : st.int 3 = (0, s1)) (e : Int) (s2 : Rs) (h1 : s1.int MC = (e, s2)) : Calls Try.prog 49 #[.pointer (some ⟨g, 0, none⟩)] w fun r w' =>
    r = .returned (vT (if s2.err = 0 then ⟨e, 0, 0, 0, 0⟩ else Tm.zero)) ∧ Rdf w' g s2 ∧ Only w w' g := by
  have MCe : MC = 1048576 := rfl
  have l1 : s1.rest.length ≤ 140737488351232 := by have := int_len st 3; rw [h0] at this; simp only at this; omega
  have l2 : s2.rest.length ≤ 140737488351232 := by have := int_len s1 MC; rw [h1] at this; simp only at this; omega
  have qe := int_bd s1 MC (by decide)
  rw [h1] at qe
  simp only [MCe] at qe
  have wre : IntKind.u32.wrap e = e := by rw [IntKind.wrap_u32]; omega
  have i0 := fun W (hh : Rdf W g st) => fInt g st 3 W hh (by decide) (by decide)
  rw [h0] at i0
  have I0 := Lib.hid i0
  clear i0
  have i1 := fun W (hh : Rdf W g s1) => fInt g s1 MC W hh (by decide) (by decide)
  rw [h1] at i1
  simp only [MCe] at i1
  have I1 := Lib.hid i1
  clear i1
  have hg := Rdf.lt h
  clear h0 h1 l1 l2 qe MCe
  go_enter Try.func49, Try.ntmps49
  go_wp2_with fail
  have b0 := Bk.new w 50 #[.int .u32 0, .int .i64 0, .int .u32 0, .int .u32 0, .int .u32 0]
  have o0 := (Only.refl w g).alloc (.cells #[.int .u32 0, .int .i64 0, .int .u32 0, .int .u32 0, .int .u32 0] 50)
  refine (I0.out _ (Rdf.alloc h _)).mono ?_
  rintro r W1 ⟨rfl, hr, ho⟩
  have b1 := Bk.only b0 ho (by simp; omega)
  have o1 := o0.trans ho
  have hr1 := hr
  clear b0 o0 hr ho h
  have B1 := Lib.hid b1
  have O1 := Lib.hid o1
  have R1 := Lib.hid hr1
  have z1 := Bk.lt b1
  clear b1 o1 hr1
  go_wp2_with fail
  have c1 := Bk.new W1 50 #[.int .u32 0, .int .i64 0, .int .u32 0, .int .u32 0, .int .u32 0]
  refine (I1.out _ (Rdf.alloc R1.out _)).mono ?_
  rintro r W2 ⟨rfl, hr, ho⟩
  have z2 := ho.size
  have B2 := Lib.hid (Bk.only (Bk.alloc B1.out _) ho (by omega))
  have c2 := Bk.only c1 ho (by simp; omega)
  have O2 := Lib.hid ((O1.out.alloc _).trans ho)
  have R2 := Lib.hid hr
  clear ho hr c1 B1 O1 R1
  have x0 : W2.cell? ⟨W1.heap.size, 0, none⟩ = some (.int .u32 0) := Bk.cell c2 0 _ rfl
  have y0 : W2.frozen? ⟨W1.heap.size, 0, none⟩ = false := Bk.frozen c2 0
  have x1 : W2.cell? ⟨W1.heap.size, 1, none⟩ = some (.int .i64 0) := Bk.cell c2 1 _ rfl
  have y1 : W2.frozen? ⟨W1.heap.size, 1, none⟩ = false := Bk.frozen c2 1
  have x2 : W2.cell? ⟨W1.heap.size, 2, none⟩ = some (.int .u32 0) := Bk.cell c2 2 _ rfl
  have y2 : W2.frozen? ⟨W1.heap.size, 2, none⟩ = false := Bk.frozen c2 2
  have x3 : W2.cell? ⟨W1.heap.size, 3, none⟩ = some (.int .u32 0) := Bk.cell c2 3 _ rfl
  have y3 : W2.frozen? ⟨W1.heap.size, 3, none⟩ = false := Bk.frozen c2 3
  have x4 : W2.cell? ⟨W1.heap.size, 4, none⟩ = some (.int .u32 0) := Bk.cell c2 4 _ rfl
  have y4 : W2.frozen? ⟨W1.heap.size, 4, none⟩ = false := Bk.frozen c2 4
  have C2 := Lib.hid c2
  clear c2
  go_wp2_with fail
  refine wp_loop_rounds 1 ?_
  have c' : Bk (W2.setCell ⟨W1.heap.size, 0, none⟩ (.int .u32 e)) W1.heap.size 50 #[.int .u32 e, .int .i64 0, .int .u32 0, .int .u32 0, .int .u32 0] := Bk.set C2.out 0 _
  have o' := Only.set O2.out (p := ⟨W1.heap.size, 0, none⟩) (.inr (by simp; omega)) (.int .u32 e)
  have r' := Rdf.far R2.out (by simp; omega) (p := ⟨W1.heap.size, 0, none⟩) (.int .u32 e)
  have b' := Bk.far B2.out (by simp; omega) (p := ⟨W1.heap.size, 0, none⟩) (.int .u32 e)
  have u0 : W2.cell? ⟨w.heap.size, 0, none⟩ = some (.int .u32 0) := Bk.cell B2.out 0 _ rfl
  have v0 : W2.frozen? ⟨w.heap.size, 0, none⟩ = false := Bk.frozen B2.out 0
  have u1 : W2.cell? ⟨w.heap.size, 1, none⟩ = some (.int .i64 0) := Bk.cell B2.out 1 _ rfl
  have v1 : W2.frozen? ⟨w.heap.size, 1, none⟩ = false := Bk.frozen B2.out 1
  have u2 : W2.cell? ⟨w.heap.size, 2, none⟩ = some (.int .u32 0) := Bk.cell B2.out 2 _ rfl
  have v2 : W2.frozen? ⟨w.heap.size, 2, none⟩ = false := Bk.frozen B2.out 2
  have u3 : W2.cell? ⟨w.heap.size, 3, none⟩ = some (.int .u32 0) := Bk.cell B2.out 3 _ rfl
  have v3 : W2.frozen? ⟨w.heap.size, 3, none⟩ = false := Bk.frozen B2.out 3
  have u4 : W2.cell? ⟨w.heap.size, 4, none⟩ = some (.int .u32 0) := Bk.cell B2.out 4 _ rfl
  have v4 : W2.frozen? ⟨w.heap.size, 4, none⟩ = false := Bk.frozen B2.out 4
  have k2 : W2.cell? ⟨g, 2, none⟩ = some (.int .i64 s2.err) := Rdf.cell2 R2.out
  have gn1 : g ≠ W1.heap.size := by omega
  have gn2 : g ≠ w.heap.size := by omega
  have gn3 : w.heap.size ≠ W1.heap.size := by omega
  have O' := Lib.hid o'
  have R' := Lib.hid r'
  clear c' o' r' b'
  rw [rounds_succ]
  by_cases hz : s2.err = 0
  · have hz1 : (s2.err == 0) = true := by simp [hz]
    have hz2 : (s2.err != 0) = false := by simp [hz]
    have HZ := Lib.hid hz
    clear hz
    go_wp2_with fail
    refine bodyPost_ret (v := vT ⟨e, 0, 0, 0, 0⟩) (by simp [results, Try.results49, go_sem, u0, u1, u2, u3, u4, Tm.zero]) rfl ⟨rfl, ?_, ?_⟩
    · exact (Rdf.far (Rdf.far (Rdf.far (Rdf.far (Rdf.far R'.out (by simp; omega) _) (by simp; omega) _) (by simp; omega) _) (by simp; omega) _) (by simp; omega) _)
    · exact (Only.set (Only.set (Only.set (Only.set (Only.set O'.out (.inr (by simp)) _) (.inr (by simp)) _) (.inr (by simp)) _) (.inr (by simp)) _) (.inr (by simp)) _)
  · have hz1 : (s2.err == 0) = false := by simp [hz]
    have hz2 : (s2.err != 0) = true := by simp [hz]
    have HZ := Lib.hid hz
    clear hz
    go_wp2_with fail
    refine bodyPost_ret (v := vT Tm.zero) (by simp [results, Try.results49, go_sem, u0, u1, u2, u3, u4, Tm.zero]) rfl ⟨rfl, ?_, ?_⟩
    · exact (Rdf.far (Rdf.far (Rdf.far (Rdf.far (Rdf.far R'.out (by simp; omega) _) (by simp; omega) _) (by simp; omega) _) (by simp; omega) _) (by simp; omega) _)
    · exact (Only.set (Only.set (Only.set (Only.set (Only.set O'.out (.inr (by simp)) _) (.inr (by simp)) _) (.inr (by simp)) _) (.inr (by simp)) _) (.inr (by simp)) _)

set_option maxRecDepth 20000 in
set_option maxHeartbeats 1000000 in
theorem fread_1 (g : Nat) (st : Rs) (w : World) (h : Rdf w g st) (hb : st.rest.length ≤ 140737488351232) (s1 : Rs) (h0 : st.int 3 = (1, s1)) (e : Int) (s2 : Rs) (h1 : s1.int MC = (e, s2)) (a : Int) (s3 : Rs) (h2 : s2.int MC = (a, s3)) : Calls Try.prog 49 #[.pointer (some ⟨g, 0, none⟩)] w fun r w' =>
    r = .returned (vT (if s3.err = 0 then ⟨e, 1, a, 0, 0⟩ else Tm.zero)) ∧ Rdf w' g s3 ∧ Only w w' g := by
  have MCe : MC = 1048576 := rfl
  have l1 : s1.rest.length ≤ 140737488351232 := by have := int_len st 3; rw [h0] at this; simp only at this; omega
  have l2 : s2.rest.length ≤ 140737488351232 := by have := int_len s1 MC; rw [h1] at this; simp only at this; omega
  have qe := int_bd s1 MC (by decide)
  rw [h1] at qe
  simp only [MCe] at qe
  have wre : IntKind.u32.wrap e = e := by rw [IntKind.wrap_u32]; omega
  have l3 : s3.rest.length ≤ 140737488351232 := by have := int_len s2 MC; rw [h2] at this; simp only at this; omega
  have qa := int_bd s2 MC (by decide)
  rw [h2] at qa
  simp only [MCe] at qa
  have wra : IntKind.u32.wrap a = a := by rw [IntKind.wrap_u32]; omega
  have i0 := fun W (hh : Rdf W g st) => fInt g st 3 W hh (by decide) (by decide)
  rw [h0] at i0
  have I0 := Lib.hid i0
  clear i0
  have i1 := fun W (hh : Rdf W g s1) => fInt g s1 MC W hh (by decide) (by decide)
  rw [h1] at i1
  simp only [MCe] at i1
  have I1 := Lib.hid i1
  clear i1
  have i2 := fun W (hh : Rdf W g s2) => fInt g s2 MC W hh (by decide) (by decide)
  rw [h2] at i2
  simp only [MCe] at i2
  have I2 := Lib.hid i2
  clear i2
  have hg := Rdf.lt h
  clear h0 h1 h2 l1 l2 l3 qe qa MCe
  go_enter Try.func49, Try.ntmps49
  go_wp2_with fail
  have b0 := Bk.new w 50 #[.int .u32 0, .int .i64 0, .int .u32 0, .int .u32 0, .int .u32 0]
  have o0 := (Only.refl w g).alloc (.cells #[.int .u32 0, .int .i64 0, .int .u32 0, .int .u32 0, .int .u32 0] 50)
  refine (I0.out _ (Rdf.alloc h _)).mono ?_
  rintro r W1 ⟨rfl, hr, ho⟩
  have b1 := Bk.only b0 ho (by simp; omega)
  have o1 := o0.trans ho
  have hr1 := hr
  clear b0 o0 hr ho h
  have B1 := Lib.hid b1
  have O1 := Lib.hid o1
  have R1 := Lib.hid hr1
  have z1 := Bk.lt b1
  clear b1 o1 hr1
  go_wp2_with fail
  have c1 := Bk.new W1 50 #[.int .u32 0, .int .i64 1, .int .u32 0, .int .u32 0, .int .u32 0]
  refine (I1.out _ (Rdf.alloc R1.out _)).mono ?_
  rintro r W2 ⟨rfl, hr, ho⟩
  have z2 := ho.size
  have B2 := Lib.hid (Bk.only (Bk.alloc B1.out _) ho (by omega))
  have c2 := Bk.only c1 ho (by simp; omega)
  have O2 := Lib.hid ((O1.out.alloc _).trans ho)
  have R2 := Lib.hid hr
  clear ho hr c1 B1 O1 R1
  have x0 : W2.cell? ⟨W1.heap.size, 0, none⟩ = some (.int .u32 0) := Bk.cell c2 0 _ rfl
  have y0 : W2.frozen? ⟨W1.heap.size, 0, none⟩ = false := Bk.frozen c2 0
  have x1 : W2.cell? ⟨W1.heap.size, 1, none⟩ = some (.int .i64 1) := Bk.cell c2 1 _ rfl
  have y1 : W2.frozen? ⟨W1.heap.size, 1, none⟩ = false := Bk.frozen c2 1
  have x2 : W2.cell? ⟨W1.heap.size, 2, none⟩ = some (.int .u32 0) := Bk.cell c2 2 _ rfl
  have y2 : W2.frozen? ⟨W1.heap.size, 2, none⟩ = false := Bk.frozen c2 2
  have x3 : W2.cell? ⟨W1.heap.size, 3, none⟩ = some (.int .u32 0) := Bk.cell c2 3 _ rfl
  have y3 : W2.frozen? ⟨W1.heap.size, 3, none⟩ = false := Bk.frozen c2 3
  have x4 : W2.cell? ⟨W1.heap.size, 4, none⟩ = some (.int .u32 0) := Bk.cell c2 4 _ rfl
  have y4 : W2.frozen? ⟨W1.heap.size, 4, none⟩ = false := Bk.frozen c2 4
  have C2 := Lib.hid c2
  clear c2
  go_wp2_with fail
  refine wp_loop_rounds 2 ?_
  rw [rounds_succ]
  go_wp2_with fail
  have c2' : Bk (W2.setCell ⟨W1.heap.size, 0, none⟩ (.int .u32 e)) W1.heap.size 50 #[.int .u32 e, .int .i64 1, .int .u32 0, .int .u32 0, .int .u32 0] := Bk.set C2.out 0 _
  have o2' := Only.set O2.out (p := ⟨W1.heap.size, 0, none⟩) (.inr (by simp; omega)) (.int .u32 e)
  refine (I2.out _ (Rdf.far R2.out (by simp; omega) _)).mono ?_
  rintro r W3 ⟨rfl, hr, ho⟩
  have z3 := ho.size
  have c3 := Bk.only c2' ho (by omega)
  have B3 := Lib.hid (Bk.only (Bk.far B2.out (by simp; omega) _) ho (by omega))
  have O3 := Lib.hid (Only.trans o2' ho)
  have R3 := Lib.hid hr
  clear ho hr c2' o2' B2 O2 R2 C2 x0 x1 x2 x3 x4 y0 y1 y2 y3 y4
  have x0 : W3.cell? ⟨W1.heap.size, 0, none⟩ = some (.int .u32 e) := Bk.cell c3 0 _ rfl
  have y0 : W3.frozen? ⟨W1.heap.size, 0, none⟩ = false := Bk.frozen c3 0
  have x1 : W3.cell? ⟨W1.heap.size, 1, none⟩ = some (.int .i64 1) := Bk.cell c3 1 _ rfl
  have y1 : W3.frozen? ⟨W1.heap.size, 1, none⟩ = false := Bk.frozen c3 1
  have x2 : W3.cell? ⟨W1.heap.size, 2, none⟩ = some (.int .u32 0) := Bk.cell c3 2 _ rfl
  have y2 : W3.frozen? ⟨W1.heap.size, 2, none⟩ = false := Bk.frozen c3 2
  have x3 : W3.cell? ⟨W1.heap.size, 3, none⟩ = some (.int .u32 0) := Bk.cell c3 3 _ rfl
  have y3 : W3.frozen? ⟨W1.heap.size, 3, none⟩ = false := Bk.frozen c3 3
  have x4 : W3.cell? ⟨W1.heap.size, 4, none⟩ = some (.int .u32 0) := Bk.cell c3 4 _ rfl
  have y4 : W3.frozen? ⟨W1.heap.size, 4, none⟩ = false := Bk.frozen c3 4
  have C3 := Lib.hid c3
  clear c3
  go_wp2_with fail
  have c' : Bk (W3.setCell ⟨W1.heap.size, 2, none⟩ (.int .u32 a)) W1.heap.size 50 #[.int .u32 e, .int .i64 1, .int .u32 a, .int .u32 0, .int .u32 0] := Bk.set C3.out 2 _
  have o' := Only.set O3.out (p := ⟨W1.heap.size, 2, none⟩) (.inr (by simp; omega)) (.int .u32 a)
  have r' := Rdf.far R3.out (by simp; omega) (p := ⟨W1.heap.size, 2, none⟩) (.int .u32 a)
  have b' := Bk.far B3.out (by simp; omega) (p := ⟨W1.heap.size, 2, none⟩) (.int .u32 a)
  have u0 : W3.cell? ⟨w.heap.size, 0, none⟩ = some (.int .u32 0) := Bk.cell B3.out 0 _ rfl
  have v0 : W3.frozen? ⟨w.heap.size, 0, none⟩ = false := Bk.frozen B3.out 0
  have u1 : W3.cell? ⟨w.heap.size, 1, none⟩ = some (.int .i64 0) := Bk.cell B3.out 1 _ rfl
  have v1 : W3.frozen? ⟨w.heap.size, 1, none⟩ = false := Bk.frozen B3.out 1
  have u2 : W3.cell? ⟨w.heap.size, 2, none⟩ = some (.int .u32 0) := Bk.cell B3.out 2 _ rfl
  have v2 : W3.frozen? ⟨w.heap.size, 2, none⟩ = false := Bk.frozen B3.out 2
  have u3 : W3.cell? ⟨w.heap.size, 3, none⟩ = some (.int .u32 0) := Bk.cell B3.out 3 _ rfl
  have v3 : W3.frozen? ⟨w.heap.size, 3, none⟩ = false := Bk.frozen B3.out 3
  have u4 : W3.cell? ⟨w.heap.size, 4, none⟩ = some (.int .u32 0) := Bk.cell B3.out 4 _ rfl
  have v4 : W3.frozen? ⟨w.heap.size, 4, none⟩ = false := Bk.frozen B3.out 4
  have k2 : W3.cell? ⟨g, 2, none⟩ = some (.int .i64 s3.err) := Rdf.cell2 R3.out
  have gn1 : g ≠ W1.heap.size := by omega
  have gn2 : g ≠ w.heap.size := by omega
  have gn3 : w.heap.size ≠ W1.heap.size := by omega
  have O' := Lib.hid o'
  have R' := Lib.hid r'
  clear c' o' r' b'
  rw [rounds_succ]
  by_cases hz : s3.err = 0
  · have hz1 : (s3.err == 0) = true := by simp [hz]
    have hz2 : (s3.err != 0) = false := by simp [hz]
    have HZ := Lib.hid hz
    clear hz
    go_wp2_with fail
    refine bodyPost_ret (v := vT ⟨e, 1, a, 0, 0⟩) (by simp [results, Try.results49, go_sem, u0, u1, u2, u3, u4, Tm.zero]) rfl ⟨rfl, ?_, ?_⟩
    · exact (Rdf.far (Rdf.far (Rdf.far (Rdf.far (Rdf.far R'.out (by simp; omega) _) (by simp; omega) _) (by simp; omega) _) (by simp; omega) _) (by simp; omega) _)
    · exact (Only.set (Only.set (Only.set (Only.set (Only.set O'.out (.inr (by simp)) _) (.inr (by simp)) _) (.inr (by simp)) _) (.inr (by simp)) _) (.inr (by simp)) _)
  · have hz1 : (s3.err == 0) = false := by simp [hz]
    have hz2 : (s3.err != 0) = true := by simp [hz]
    have HZ := Lib.hid hz
    clear hz
    go_wp2_with fail
    refine bodyPost_ret (v := vT Tm.zero) (by simp [results, Try.results49, go_sem, u0, u1, u2, u3, u4, Tm.zero]) rfl ⟨rfl, ?_, ?_⟩
    · exact (Rdf.far (Rdf.far (Rdf.far (Rdf.far (Rdf.far R'.out (by simp; omega) _) (by simp; omega) _) (by simp; omega) _) (by simp; omega) _) (by simp; omega) _)
    · exact (Only.set (Only.set (Only.set (Only.set (Only.set O'.out (.inr (by simp)) _) (.inr (by simp)) _) (.inr (by simp)) _) (.inr (by simp)) _) (.inr (by simp)) _)

set_option maxRecDepth 20000 in
set_option maxHeartbeats 1000000 in
theorem fread_2 (g : Nat) (st : Rs) (w : World) (h : Rdf w g st) (hb : st.rest.length ≤ 140737488351232) (s1 : Rs) (h0 : st.int 3 = (2, s1)) (e : Int) (s2 : Rs) (h1 : s1.int MC = (e, s2)) (a : Int) (s3 : Rs) (h2 : s2.int MC = (a, s3)) (b : Int) (s4 : Rs) (h3 : s3.int MC = (b, s4)) : Calls Try.prog 49 #[.pointer (some ⟨g, 0, none⟩)] w fun r w' =>
    r = .returned (vT (if s4.err = 0 then ⟨e, 2, a, b, 0⟩ else Tm.zero)) ∧ Rdf w' g s4 ∧ Only w w' g := by
  have MCe : MC = 1048576 := rfl
  have l1 : s1.rest.length ≤ 140737488351232 := by have := int_len st 3; rw [h0] at this; simp only at this; omega
  have l2 : s2.rest.length ≤ 140737488351232 := by have := int_len s1 MC; rw [h1] at this; simp only at this; omega
  have qe := int_bd s1 MC (by decide)
  rw [h1] at qe
  simp only [MCe] at qe
  have wre : IntKind.u32.wrap e = e := by rw [IntKind.wrap_u32]; omega
  have l3 : s3.rest.length ≤ 140737488351232 := by have := int_len s2 MC; rw [h2] at this; simp only at this; omega
  have qa := int_bd s2 MC (by decide)
  rw [h2] at qa
  simp only [MCe] at qa
  have wra : IntKind.u32.wrap a = a := by rw [IntKind.wrap_u32]; omega
  have l4 : s4.rest.length ≤ 140737488351232 := by have := int_len s3 MC; rw [h3] at this; simp only at this; omega
  have qb := int_bd s3 MC (by decide)
  rw [h3] at qb
  simp only [MCe] at qb
  have wrb : IntKind.u32.wrap b = b := by rw [IntKind.wrap_u32]; omega
  have i0 := fun W (hh : Rdf W g st) => fInt g st 3 W hh (by decide) (by decide)
  rw [h0] at i0
  have I0 := Lib.hid i0
  clear i0
  have i1 := fun W (hh : Rdf W g s1) => fInt g s1 MC W hh (by decide) (by decide)
  rw [h1] at i1
  simp only [MCe] at i1
  have I1 := Lib.hid i1
  clear i1
  have i2 := fun W (hh : Rdf W g s2) => fInt g s2 MC W hh (by decide) (by decide)
  rw [h2] at i2
  simp only [MCe] at i2
  have I2 := Lib.hid i2
  clear i2
  have i3 := fun W (hh : Rdf W g s3) => fInt g s3 MC W hh (by decide) (by decide)
  rw [h3] at i3
  simp only [MCe] at i3
  have I3 := Lib.hid i3
  clear i3
  have hg := Rdf.lt h
  clear h0 h1 h2 h3 l1 l2 l3 l4 qe qa qb MCe
  go_enter Try.func49, Try.ntmps49
  go_wp2_with fail
  have b0 := Bk.new w 50 #[.int .u32 0, .int .i64 0, .int .u32 0, .int .u32 0, .int .u32 0]
  have o0 := (Only.refl w g).alloc (.cells #[.int .u32 0, .int .i64 0, .int .u32 0, .int .u32 0, .int .u32 0] 50)
  refine (I0.out _ (Rdf.alloc h _)).mono ?_
  rintro r W1 ⟨rfl, hr, ho⟩
  have b1 := Bk.only b0 ho (by simp; omega)
  have o1 := o0.trans ho
  have hr1 := hr
  clear b0 o0 hr ho h
  have B1 := Lib.hid b1
  have O1 := Lib.hid o1
  have R1 := Lib.hid hr1
  have z1 := Bk.lt b1
  clear b1 o1 hr1
  go_wp2_with fail
  have c1 := Bk.new W1 50 #[.int .u32 0, .int .i64 2, .int .u32 0, .int .u32 0, .int .u32 0]
  refine (I1.out _ (Rdf.alloc R1.out _)).mono ?_
  rintro r W2 ⟨rfl, hr, ho⟩
  have z2 := ho.size
  have B2 := Lib.hid (Bk.only (Bk.alloc B1.out _) ho (by omega))
  have c2 := Bk.only c1 ho (by simp; omega)
  have O2 := Lib.hid ((O1.out.alloc _).trans ho)
  have R2 := Lib.hid hr
  clear ho hr c1 B1 O1 R1
  have x0 : W2.cell? ⟨W1.heap.size, 0, none⟩ = some (.int .u32 0) := Bk.cell c2 0 _ rfl
  have y0 : W2.frozen? ⟨W1.heap.size, 0, none⟩ = false := Bk.frozen c2 0
  have x1 : W2.cell? ⟨W1.heap.size, 1, none⟩ = some (.int .i64 2) := Bk.cell c2 1 _ rfl
  have y1 : W2.frozen? ⟨W1.heap.size, 1, none⟩ = false := Bk.frozen c2 1
  have x2 : W2.cell? ⟨W1.heap.size, 2, none⟩ = some (.int .u32 0) := Bk.cell c2 2 _ rfl
  have y2 : W2.frozen? ⟨W1.heap.size, 2, none⟩ = false := Bk.frozen c2 2
  have x3 : W2.cell? ⟨W1.heap.size, 3, none⟩ = some (.int .u32 0) := Bk.cell c2 3 _ rfl
  have y3 : W2.frozen? ⟨W1.heap.size, 3, none⟩ = false := Bk.frozen c2 3
  have x4 : W2.cell? ⟨W1.heap.size, 4, none⟩ = some (.int .u32 0) := Bk.cell c2 4 _ rfl
  have y4 : W2.frozen? ⟨W1.heap.size, 4, none⟩ = false := Bk.frozen c2 4
  have C2 := Lib.hid c2
  clear c2
  go_wp2_with fail
  refine wp_loop_rounds 3 ?_
  rw [rounds_succ]
  go_wp2_with fail
  have c2' : Bk (W2.setCell ⟨W1.heap.size, 0, none⟩ (.int .u32 e)) W1.heap.size 50 #[.int .u32 e, .int .i64 2, .int .u32 0, .int .u32 0, .int .u32 0] := Bk.set C2.out 0 _
  have o2' := Only.set O2.out (p := ⟨W1.heap.size, 0, none⟩) (.inr (by simp; omega)) (.int .u32 e)
  refine (I2.out _ (Rdf.far R2.out (by simp; omega) _)).mono ?_
  rintro r W3 ⟨rfl, hr, ho⟩
  have z3 := ho.size
  have c3 := Bk.only c2' ho (by omega)
  have B3 := Lib.hid (Bk.only (Bk.far B2.out (by simp; omega) _) ho (by omega))
  have O3 := Lib.hid (Only.trans o2' ho)
  have R3 := Lib.hid hr
  clear ho hr c2' o2' B2 O2 R2 C2 x0 x1 x2 x3 x4 y0 y1 y2 y3 y4
  have x0 : W3.cell? ⟨W1.heap.size, 0, none⟩ = some (.int .u32 e) := Bk.cell c3 0 _ rfl
  have y0 : W3.frozen? ⟨W1.heap.size, 0, none⟩ = false := Bk.frozen c3 0
  have x1 : W3.cell? ⟨W1.heap.size, 1, none⟩ = some (.int .i64 2) := Bk.cell c3 1 _ rfl
  have y1 : W3.frozen? ⟨W1.heap.size, 1, none⟩ = false := Bk.frozen c3 1
  have x2 : W3.cell? ⟨W1.heap.size, 2, none⟩ = some (.int .u32 0) := Bk.cell c3 2 _ rfl
  have y2 : W3.frozen? ⟨W1.heap.size, 2, none⟩ = false := Bk.frozen c3 2
  have x3 : W3.cell? ⟨W1.heap.size, 3, none⟩ = some (.int .u32 0) := Bk.cell c3 3 _ rfl
  have y3 : W3.frozen? ⟨W1.heap.size, 3, none⟩ = false := Bk.frozen c3 3
  have x4 : W3.cell? ⟨W1.heap.size, 4, none⟩ = some (.int .u32 0) := Bk.cell c3 4 _ rfl
  have y4 : W3.frozen? ⟨W1.heap.size, 4, none⟩ = false := Bk.frozen c3 4
  have C3 := Lib.hid c3
  clear c3
  go_wp2_with fail
  rw [rounds_succ]
  go_wp2_with fail
  have c3' : Bk (W3.setCell ⟨W1.heap.size, 2, none⟩ (.int .u32 a)) W1.heap.size 50 #[.int .u32 e, .int .i64 2, .int .u32 a, .int .u32 0, .int .u32 0] := Bk.set C3.out 2 _
  have o3' := Only.set O3.out (p := ⟨W1.heap.size, 2, none⟩) (.inr (by simp; omega)) (.int .u32 a)
  refine (I3.out _ (Rdf.far R3.out (by simp; omega) _)).mono ?_
  rintro r W4 ⟨rfl, hr, ho⟩
  have z4 := ho.size
  have c4 := Bk.only c3' ho (by omega)
  have B4 := Lib.hid (Bk.only (Bk.far B3.out (by simp; omega) _) ho (by omega))
  have O4 := Lib.hid (Only.trans o3' ho)
  have R4 := Lib.hid hr
  clear ho hr c3' o3' B3 O3 R3 C3 x0 x1 x2 x3 x4 y0 y1 y2 y3 y4
  have x0 : W4.cell? ⟨W1.heap.size, 0, none⟩ = some (.int .u32 e) := Bk.cell c4 0 _ rfl
  have y0 : W4.frozen? ⟨W1.heap.size, 0, none⟩ = false := Bk.frozen c4 0
  have x1 : W4.cell? ⟨W1.heap.size, 1, none⟩ = some (.int .i64 2) := Bk.cell c4 1 _ rfl
  have y1 : W4.frozen? ⟨W1.heap.size, 1, none⟩ = false := Bk.frozen c4 1
  have x2 : W4.cell? ⟨W1.heap.size, 2, none⟩ = some (.int .u32 a) := Bk.cell c4 2 _ rfl
  have y2 : W4.frozen? ⟨W1.heap.size, 2, none⟩ = false := Bk.frozen c4 2
  have x3 : W4.cell? ⟨W1.heap.size, 3, none⟩ = some (.int .u32 0) := Bk.cell c4 3 _ rfl
  have y3 : W4.frozen? ⟨W1.heap.size, 3, none⟩ = false := Bk.frozen c4 3
  have x4 : W4.cell? ⟨W1.heap.size, 4, none⟩ = some (.int .u32 0) := Bk.cell c4 4 _ rfl
  have y4 : W4.frozen? ⟨W1.heap.size, 4, none⟩ = false := Bk.frozen c4 4
  have C4 := Lib.hid c4
  clear c4
  go_wp2_with fail
  have c' : Bk (W4.setCell ⟨W1.heap.size, 3, none⟩ (.int .u32 b)) W1.heap.size 50 #[.int .u32 e, .int .i64 2, .int .u32 a, .int .u32 b, .int .u32 0] := Bk.set C4.out 3 _
  have o' := Only.set O4.out (p := ⟨W1.heap.size, 3, none⟩) (.inr (by simp; omega)) (.int .u32 b)
  have r' := Rdf.far R4.out (by simp; omega) (p := ⟨W1.heap.size, 3, none⟩) (.int .u32 b)
  have b' := Bk.far B4.out (by simp; omega) (p := ⟨W1.heap.size, 3, none⟩) (.int .u32 b)
  have u0 : W4.cell? ⟨w.heap.size, 0, none⟩ = some (.int .u32 0) := Bk.cell B4.out 0 _ rfl
  have v0 : W4.frozen? ⟨w.heap.size, 0, none⟩ = false := Bk.frozen B4.out 0
  have u1 : W4.cell? ⟨w.heap.size, 1, none⟩ = some (.int .i64 0) := Bk.cell B4.out 1 _ rfl
  have v1 : W4.frozen? ⟨w.heap.size, 1, none⟩ = false := Bk.frozen B4.out 1
  have u2 : W4.cell? ⟨w.heap.size, 2, none⟩ = some (.int .u32 0) := Bk.cell B4.out 2 _ rfl
  have v2 : W4.frozen? ⟨w.heap.size, 2, none⟩ = false := Bk.frozen B4.out 2
  have u3 : W4.cell? ⟨w.heap.size, 3, none⟩ = some (.int .u32 0) := Bk.cell B4.out 3 _ rfl
  have v3 : W4.frozen? ⟨w.heap.size, 3, none⟩ = false := Bk.frozen B4.out 3
  have u4 : W4.cell? ⟨w.heap.size, 4, none⟩ = some (.int .u32 0) := Bk.cell B4.out 4 _ rfl
  have v4 : W4.frozen? ⟨w.heap.size, 4, none⟩ = false := Bk.frozen B4.out 4
  have k2 : W4.cell? ⟨g, 2, none⟩ = some (.int .i64 s4.err) := Rdf.cell2 R4.out
  have gn1 : g ≠ W1.heap.size := by omega
  have gn2 : g ≠ w.heap.size := by omega
  have gn3 : w.heap.size ≠ W1.heap.size := by omega
  have O' := Lib.hid o'
  have R' := Lib.hid r'
  clear c' o' r' b'
  rw [rounds_succ]
  by_cases hz : s4.err = 0
  · have hz1 : (s4.err == 0) = true := by simp [hz]
    have hz2 : (s4.err != 0) = false := by simp [hz]
    have HZ := Lib.hid hz
    clear hz
    go_wp2_with fail
    refine bodyPost_ret (v := vT ⟨e, 2, a, b, 0⟩) (by simp [results, Try.results49, go_sem, u0, u1, u2, u3, u4, Tm.zero]) rfl ⟨rfl, ?_, ?_⟩
    · exact (Rdf.far (Rdf.far (Rdf.far (Rdf.far (Rdf.far R'.out (by simp; omega) _) (by simp; omega) _) (by simp; omega) _) (by simp; omega) _) (by simp; omega) _)
    · exact (Only.set (Only.set (Only.set (Only.set (Only.set O'.out (.inr (by simp)) _) (.inr (by simp)) _) (.inr (by simp)) _) (.inr (by simp)) _) (.inr (by simp)) _)
  · have hz1 : (s4.err == 0) = false := by simp [hz]
    have hz2 : (s4.err != 0) = true := by simp [hz]
    have HZ := Lib.hid hz
    clear hz
    go_wp2_with fail
    refine bodyPost_ret (v := vT Tm.zero) (by simp [results, Try.results49, go_sem, u0, u1, u2, u3, u4, Tm.zero]) rfl ⟨rfl, ?_, ?_⟩
    · exact (Rdf.far (Rdf.far (Rdf.far (Rdf.far (Rdf.far R'.out (by simp; omega) _) (by simp; omega) _) (by simp; omega) _) (by simp; omega) _) (by simp; omega) _)
    · exact (Only.set (Only.set (Only.set (Only.set (Only.set O'.out (.inr (by simp)) _) (.inr (by simp)) _) (.inr (by simp)) _) (.inr (by simp)) _) (.inr (by simp)) _)

set_option maxRecDepth 20000 in
set_option maxHeartbeats 1000000 in
theorem fread_3 (g : Nat) (st : Rs) (w : World) (h : Rdf w g st) (hb : st.rest.length ≤ 140737488351232) (s1 : Rs) (h0 : st.int 3 = (3, s1)) (e : Int) (s2 : Rs) (h1 : s1.int MC = (e, s2)) (a : Int) (s3 : Rs) (h2 : s2.int MC = (a, s3)) (b : Int) (s4 : Rs) (h3 : s3.int MC = (b, s4)) (c : Int) (s5 : Rs) (h4 : s4.int MC = (c, s5)) : Calls Try.prog 49 #[.pointer (some ⟨g, 0, none⟩)] w fun r w' =>
    r = .returned (vT (if s5.err = 0 then ⟨e, 3, a, b, c⟩ else Tm.zero)) ∧ Rdf w' g s5 ∧ Only w w' g := by
  have MCe : MC = 1048576 := rfl
  have l1 : s1.rest.length ≤ 140737488351232 := by have := int_len st 3; rw [h0] at this; simp only at this; omega
  have l2 : s2.rest.length ≤ 140737488351232 := by have := int_len s1 MC; rw [h1] at this; simp only at this; omega
  have qe := int_bd s1 MC (by decide)
  rw [h1] at qe
  simp only [MCe] at qe
  have wre : IntKind.u32.wrap e = e := by rw [IntKind.wrap_u32]; omega
  have l3 : s3.rest.length ≤ 140737488351232 := by have := int_len s2 MC; rw [h2] at this; simp only at this; omega
  have qa := int_bd s2 MC (by decide)
  rw [h2] at qa
  simp only [MCe] at qa
  have wra : IntKind.u32.wrap a = a := by rw [IntKind.wrap_u32]; omega
  have l4 : s4.rest.length ≤ 140737488351232 := by have := int_len s3 MC; rw [h3] at this; simp only at this; omega
  have qb := int_bd s3 MC (by decide)
  rw [h3] at qb
  simp only [MCe] at qb
  have wrb : IntKind.u32.wrap b = b := by rw [IntKind.wrap_u32]; omega
  have l5 : s5.rest.length ≤ 140737488351232 := by have := int_len s4 MC; rw [h4] at this; simp only at this; omega
  have qc := int_bd s4 MC (by decide)
  rw [h4] at qc
  simp only [MCe] at qc
  have wrc : IntKind.u32.wrap c = c := by rw [IntKind.wrap_u32]; omega
  have i0 := fun W (hh : Rdf W g st) => fInt g st 3 W hh (by decide) (by decide)
  rw [h0] at i0
  have I0 := Lib.hid i0
  clear i0
  have i1 := fun W (hh : Rdf W g s1) => fInt g s1 MC W hh (by decide) (by decide)
  rw [h1] at i1
  simp only [MCe] at i1
  have I1 := Lib.hid i1
  clear i1
  have i2 := fun W (hh : Rdf W g s2) => fInt g s2 MC W hh (by decide) (by decide)
  rw [h2] at i2
  simp only [MCe] at i2
  have I2 := Lib.hid i2
  clear i2
  have i3 := fun W (hh : Rdf W g s3) => fInt g s3 MC W hh (by decide) (by decide)
  rw [h3] at i3
  simp only [MCe] at i3
  have I3 := Lib.hid i3
  clear i3
  have i4 := fun W (hh : Rdf W g s4) => fInt g s4 MC W hh (by decide) (by decide)
  rw [h4] at i4
  simp only [MCe] at i4
  have I4 := Lib.hid i4
  clear i4
  have hg := Rdf.lt h
  clear h0 h1 h2 h3 h4 l1 l2 l3 l4 l5 qe qa qb qc MCe
  go_enter Try.func49, Try.ntmps49
  go_wp2_with fail
  have b0 := Bk.new w 50 #[.int .u32 0, .int .i64 0, .int .u32 0, .int .u32 0, .int .u32 0]
  have o0 := (Only.refl w g).alloc (.cells #[.int .u32 0, .int .i64 0, .int .u32 0, .int .u32 0, .int .u32 0] 50)
  refine (I0.out _ (Rdf.alloc h _)).mono ?_
  rintro r W1 ⟨rfl, hr, ho⟩
  have b1 := Bk.only b0 ho (by simp; omega)
  have o1 := o0.trans ho
  have hr1 := hr
  clear b0 o0 hr ho h
  have B1 := Lib.hid b1
  have O1 := Lib.hid o1
  have R1 := Lib.hid hr1
  have z1 := Bk.lt b1
  clear b1 o1 hr1
  go_wp2_with fail
  have c1 := Bk.new W1 50 #[.int .u32 0, .int .i64 3, .int .u32 0, .int .u32 0, .int .u32 0]
  refine (I1.out _ (Rdf.alloc R1.out _)).mono ?_
  rintro r W2 ⟨rfl, hr, ho⟩
  have z2 := ho.size
  have B2 := Lib.hid (Bk.only (Bk.alloc B1.out _) ho (by omega))
  have c2 := Bk.only c1 ho (by simp; omega)
  have O2 := Lib.hid ((O1.out.alloc _).trans ho)
  have R2 := Lib.hid hr
  clear ho hr c1 B1 O1 R1
  have x0 : W2.cell? ⟨W1.heap.size, 0, none⟩ = some (.int .u32 0) := Bk.cell c2 0 _ rfl
  have y0 : W2.frozen? ⟨W1.heap.size, 0, none⟩ = false := Bk.frozen c2 0
  have x1 : W2.cell? ⟨W1.heap.size, 1, none⟩ = some (.int .i64 3) := Bk.cell c2 1 _ rfl
  have y1 : W2.frozen? ⟨W1.heap.size, 1, none⟩ = false := Bk.frozen c2 1
  have x2 : W2.cell? ⟨W1.heap.size, 2, none⟩ = some (.int .u32 0) := Bk.cell c2 2 _ rfl
  have y2 : W2.frozen? ⟨W1.heap.size, 2, none⟩ = false := Bk.frozen c2 2
  have x3 : W2.cell? ⟨W1.heap.size, 3, none⟩ = some (.int .u32 0) := Bk.cell c2 3 _ rfl
  have y3 : W2.frozen? ⟨W1.heap.size, 3, none⟩ = false := Bk.frozen c2 3
  have x4 : W2.cell? ⟨W1.heap.size, 4, none⟩ = some (.int .u32 0) := Bk.cell c2 4 _ rfl
  have y4 : W2.frozen? ⟨W1.heap.size, 4, none⟩ = false := Bk.frozen c2 4
  have C2 := Lib.hid c2
  clear c2
  go_wp2_with fail
  refine wp_loop_rounds 4 ?_
  rw [rounds_succ]
  go_wp2_with fail
  have c2' : Bk (W2.setCell ⟨W1.heap.size, 0, none⟩ (.int .u32 e)) W1.heap.size 50 #[.int .u32 e, .int .i64 3, .int .u32 0, .int .u32 0, .int .u32 0] := Bk.set C2.out 0 _
  have o2' := Only.set O2.out (p := ⟨W1.heap.size, 0, none⟩) (.inr (by simp; omega)) (.int .u32 e)
  refine (I2.out _ (Rdf.far R2.out (by simp; omega) _)).mono ?_
  rintro r W3 ⟨rfl, hr, ho⟩
  have z3 := ho.size
  have c3 := Bk.only c2' ho (by omega)
  have B3 := Lib.hid (Bk.only (Bk.far B2.out (by simp; omega) _) ho (by omega))
  have O3 := Lib.hid (Only.trans o2' ho)
  have R3 := Lib.hid hr
  clear ho hr c2' o2' B2 O2 R2 C2 x0 x1 x2 x3 x4 y0 y1 y2 y3 y4
  have x0 : W3.cell? ⟨W1.heap.size, 0, none⟩ = some (.int .u32 e) := Bk.cell c3 0 _ rfl
  have y0 : W3.frozen? ⟨W1.heap.size, 0, none⟩ = false := Bk.frozen c3 0
  have x1 : W3.cell? ⟨W1.heap.size, 1, none⟩ = some (.int .i64 3) := Bk.cell c3 1 _ rfl
  have y1 : W3.frozen? ⟨W1.heap.size, 1, none⟩ = false := Bk.frozen c3 1
  have x2 : W3.cell? ⟨W1.heap.size, 2, none⟩ = some (.int .u32 0) := Bk.cell c3 2 _ rfl
  have y2 : W3.frozen? ⟨W1.heap.size, 2, none⟩ = false := Bk.frozen c3 2
  have x3 : W3.cell? ⟨W1.heap.size, 3, none⟩ = some (.int .u32 0) := Bk.cell c3 3 _ rfl
  have y3 : W3.frozen? ⟨W1.heap.size, 3, none⟩ = false := Bk.frozen c3 3
  have x4 : W3.cell? ⟨W1.heap.size, 4, none⟩ = some (.int .u32 0) := Bk.cell c3 4 _ rfl
  have y4 : W3.frozen? ⟨W1.heap.size, 4, none⟩ = false := Bk.frozen c3 4
  have C3 := Lib.hid c3
  clear c3
  go_wp2_with fail
  rw [rounds_succ]
  go_wp2_with fail
  have c3' : Bk (W3.setCell ⟨W1.heap.size, 2, none⟩ (.int .u32 a)) W1.heap.size 50 #[.int .u32 e, .int .i64 3, .int .u32 a, .int .u32 0, .int .u32 0] := Bk.set C3.out 2 _
  have o3' := Only.set O3.out (p := ⟨W1.heap.size, 2, none⟩) (.inr (by simp; omega)) (.int .u32 a)
  refine (I3.out _ (Rdf.far R3.out (by simp; omega) _)).mono ?_
  rintro r W4 ⟨rfl, hr, ho⟩
  have z4 := ho.size
  have c4 := Bk.only c3' ho (by omega)
  have B4 := Lib.hid (Bk.only (Bk.far B3.out (by simp; omega) _) ho (by omega))
  have O4 := Lib.hid (Only.trans o3' ho)
  have R4 := Lib.hid hr
  clear ho hr c3' o3' B3 O3 R3 C3 x0 x1 x2 x3 x4 y0 y1 y2 y3 y4
  have x0 : W4.cell? ⟨W1.heap.size, 0, none⟩ = some (.int .u32 e) := Bk.cell c4 0 _ rfl
  have y0 : W4.frozen? ⟨W1.heap.size, 0, none⟩ = false := Bk.frozen c4 0
  have x1 : W4.cell? ⟨W1.heap.size, 1, none⟩ = some (.int .i64 3) := Bk.cell c4 1 _ rfl
  have y1 : W4.frozen? ⟨W1.heap.size, 1, none⟩ = false := Bk.frozen c4 1
  have x2 : W4.cell? ⟨W1.heap.size, 2, none⟩ = some (.int .u32 a) := Bk.cell c4 2 _ rfl
  have y2 : W4.frozen? ⟨W1.heap.size, 2, none⟩ = false := Bk.frozen c4 2
  have x3 : W4.cell? ⟨W1.heap.size, 3, none⟩ = some (.int .u32 0) := Bk.cell c4 3 _ rfl
  have y3 : W4.frozen? ⟨W1.heap.size, 3, none⟩ = false := Bk.frozen c4 3
  have x4 : W4.cell? ⟨W1.heap.size, 4, none⟩ = some (.int .u32 0) := Bk.cell c4 4 _ rfl
  have y4 : W4.frozen? ⟨W1.heap.size, 4, none⟩ = false := Bk.frozen c4 4
  have C4 := Lib.hid c4
  clear c4
  go_wp2_with fail
  rw [rounds_succ]
  go_wp2_with fail
  have c4' : Bk (W4.setCell ⟨W1.heap.size, 3, none⟩ (.int .u32 b)) W1.heap.size 50 #[.int .u32 e, .int .i64 3, .int .u32 a, .int .u32 b, .int .u32 0] := Bk.set C4.out 3 _
  have o4' := Only.set O4.out (p := ⟨W1.heap.size, 3, none⟩) (.inr (by simp; omega)) (.int .u32 b)
  refine (I4.out _ (Rdf.far R4.out (by simp; omega) _)).mono ?_
  rintro r W5 ⟨rfl, hr, ho⟩
  have z5 := ho.size
  have c5 := Bk.only c4' ho (by omega)
  have B5 := Lib.hid (Bk.only (Bk.far B4.out (by simp; omega) _) ho (by omega))
  have O5 := Lib.hid (Only.trans o4' ho)
  have R5 := Lib.hid hr
  clear ho hr c4' o4' B4 O4 R4 C4 x0 x1 x2 x3 x4 y0 y1 y2 y3 y4
  have x0 : W5.cell? ⟨W1.heap.size, 0, none⟩ = some (.int .u32 e) := Bk.cell c5 0 _ rfl
  have y0 : W5.frozen? ⟨W1.heap.size, 0, none⟩ = false := Bk.frozen c5 0
  have x1 : W5.cell? ⟨W1.heap.size, 1, none⟩ = some (.int .i64 3) := Bk.cell c5 1 _ rfl
  have y1 : W5.frozen? ⟨W1.heap.size, 1, none⟩ = false := Bk.frozen c5 1
  have x2 : W5.cell? ⟨W1.heap.size, 2, none⟩ = some (.int .u32 a) := Bk.cell c5 2 _ rfl
  have y2 : W5.frozen? ⟨W1.heap.size, 2, none⟩ = false := Bk.frozen c5 2
  have x3 : W5.cell? ⟨W1.heap.size, 3, none⟩ = some (.int .u32 b) := Bk.cell c5 3 _ rfl
  have y3 : W5.frozen? ⟨W1.heap.size, 3, none⟩ = false := Bk.frozen c5 3
  have x4 : W5.cell? ⟨W1.heap.size, 4, none⟩ = some (.int .u32 0) := Bk.cell c5 4 _ rfl
  have y4 : W5.frozen? ⟨W1.heap.size, 4, none⟩ = false := Bk.frozen c5 4
  have C5 := Lib.hid c5
  clear c5
  go_wp2_with fail
  have c' : Bk (W5.setCell ⟨W1.heap.size, 4, none⟩ (.int .u32 c)) W1.heap.size 50 #[.int .u32 e, .int .i64 3, .int .u32 a, .int .u32 b, .int .u32 c] := Bk.set C5.out 4 _
  have o' := Only.set O5.out (p := ⟨W1.heap.size, 4, none⟩) (.inr (by simp; omega)) (.int .u32 c)
  have r' := Rdf.far R5.out (by simp; omega) (p := ⟨W1.heap.size, 4, none⟩) (.int .u32 c)
  have b' := Bk.far B5.out (by simp; omega) (p := ⟨W1.heap.size, 4, none⟩) (.int .u32 c)
  have u0 : W5.cell? ⟨w.heap.size, 0, none⟩ = some (.int .u32 0) := Bk.cell B5.out 0 _ rfl
  have v0 : W5.frozen? ⟨w.heap.size, 0, none⟩ = false := Bk.frozen B5.out 0
  have u1 : W5.cell? ⟨w.heap.size, 1, none⟩ = some (.int .i64 0) := Bk.cell B5.out 1 _ rfl
  have v1 : W5.frozen? ⟨w.heap.size, 1, none⟩ = false := Bk.frozen B5.out 1
  have u2 : W5.cell? ⟨w.heap.size, 2, none⟩ = some (.int .u32 0) := Bk.cell B5.out 2 _ rfl
  have v2 : W5.frozen? ⟨w.heap.size, 2, none⟩ = false := Bk.frozen B5.out 2
  have u3 : W5.cell? ⟨w.heap.size, 3, none⟩ = some (.int .u32 0) := Bk.cell B5.out 3 _ rfl
  have v3 : W5.frozen? ⟨w.heap.size, 3, none⟩ = false := Bk.frozen B5.out 3
  have u4 : W5.cell? ⟨w.heap.size, 4, none⟩ = some (.int .u32 0) := Bk.cell B5.out 4 _ rfl
  have v4 : W5.frozen? ⟨w.heap.size, 4, none⟩ = false := Bk.frozen B5.out 4
  have k2 : W5.cell? ⟨g, 2, none⟩ = some (.int .i64 s5.err) := Rdf.cell2 R5.out
  have gn1 : g ≠ W1.heap.size := by omega
  have gn2 : g ≠ w.heap.size := by omega
  have gn3 : w.heap.size ≠ W1.heap.size := by omega
  have O' := Lib.hid o'
  have R' := Lib.hid r'
  clear c' o' r' b'
  rw [rounds_succ]
  by_cases hz : s5.err = 0
  · have hz1 : (s5.err == 0) = true := by simp [hz]
    have hz2 : (s5.err != 0) = false := by simp [hz]
    have HZ := Lib.hid hz
    clear hz
    go_wp2_with fail
    refine bodyPost_ret (v := vT ⟨e, 3, a, b, c⟩) (by simp [results, Try.results49, go_sem, u0, u1, u2, u3, u4, Tm.zero]) rfl ⟨rfl, ?_, ?_⟩
    · exact (Rdf.far (Rdf.far (Rdf.far (Rdf.far (Rdf.far R'.out (by simp; omega) _) (by simp; omega) _) (by simp; omega) _) (by simp; omega) _) (by simp; omega) _)
    · exact (Only.set (Only.set (Only.set (Only.set (Only.set O'.out (.inr (by simp)) _) (.inr (by simp)) _) (.inr (by simp)) _) (.inr (by simp)) _) (.inr (by simp)) _)
  · have hz1 : (s5.err == 0) = false := by simp [hz]
    have hz2 : (s5.err != 0) = true := by simp [hz]
    have HZ := Lib.hid hz
    clear hz
    go_wp2_with fail
    refine bodyPost_ret (v := vT Tm.zero) (by simp [results, Try.results49, go_sem, u0, u1, u2, u3, u4, Tm.zero]) rfl ⟨rfl, ?_, ?_⟩
    · exact (Rdf.far (Rdf.far (Rdf.far (Rdf.far (Rdf.far R'.out (by simp; omega) _) (by simp; omega) _) (by simp; omega) _) (by simp; omega) _) (by simp; omega) _)
    · exact (Only.set (Only.set (Only.set (Only.set (Only.set O'.out (.inr (by simp)) _) (.inr (by simp)) _) (.inr (by simp)) _) (.inr (by simp)) _) (.inr (by simp)) _)
end Go.Proofs.Ytjmnncggjgmfdaa
