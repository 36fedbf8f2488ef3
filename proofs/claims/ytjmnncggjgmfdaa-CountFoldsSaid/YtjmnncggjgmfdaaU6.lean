/- The walks of the reference's writing of times. -/
import Derived.Test.YtjmnncggjgmfdaaU5
namespace Go.Proofs.Ytjmnncggjgmfdaa
open Go.RowKit Ws
set_option linter.unusedVariables false
set_option linter.unusedSimpArgs false

set_option maxHeartbeats 1000000 in
theorem fwrite_bad (t : Tm) (w : World) (h : t.check ≠ 0) : Calls Try.prog 42 #[vT t] w fun r w' => r = writeT t ∧ Same w w' := by
  have HC := Lib.hid (fun W => check34 t W)
  have HE : Hid (writeT t = .returned (.tuple #[.string (ofL []), .int .i64 t.check])) := by unfold Hid writeT Tm.write; rw [if_neg h]
  have h1 : (t.check == 0) = false := by simp [h]
  have h2 : (t.check != 0) = true := by simp [h]
  clear h
  generalize t.check = k at HC HE h1 h2
  go_enter Try.func42, Try.ntmps42
  go_wp2_with fail
  refine (HC.out _).mono ?_
  rintro r w' ⟨rfl, hs⟩
  have HS := Lib.hid hs
  clear hs
  go_wp2_with fail
  go_ret2
  exact ⟨by rw [HE.out]; rfl, Same.trans ((Same.refl _).alloc _) HS.out⟩

set_option maxRecDepth 20000 in
set_option maxHeartbeats 1000000 in
theorem fwrite_0 (e a b c : Int) (w : World) (he : 0 ≤ e) (ke : e ≤ 1048576) (hc : Tm.check ⟨e, 0, a, b, c⟩ = 0) : Calls Try.prog 42 #[.agg #[.int .u32 e, .int .i64 0, .int .u32 a, .int .u32 b, .int .u32 c]] w fun r w' =>
    r = .returned (.tuple #[.string (ofL (numB 0) ++ ofL (numB e.toNat)), .int .i64 0]) ∧ Same w w' := by
  have hC := fun W => check34 ⟨e, 0, a, b, c⟩ W
  rw [hc] at hC
  have HC := Lib.hid hC
  clear hC hc
  have HN0 := Lib.hid (fun W => fNumI 0 W (by omega) (by omega))
  have HN1 := Lib.hid (fun W => fNumI e W (by omega) (by omega))
  have z0 : numB (Int.toNat 0) = numB 0 := rfl
  rw [z0] at HN0
  clear z0
  have q0 : (ofL (numB 0)).size ≤ 10 := len10 _ (by omega)
  generalize ofL (numB 0) = s0 at HN0 q0 ⊢
  have q1 : (ofL (numB e.toNat)).size ≤ 10 := len10 _ (by omega)
  generalize ofL (numB e.toNat) = s1 at HN1 q1 ⊢
  go_enter Try.func42, Try.ntmps42
  go_wp2_with fail
  have b0 := Bk.new w 50 #[.int .u32 e, .int .i64 0, .int .u32 a, .int .u32 b, .int .u32 c]
  have s0 := (Same.refl w).alloc (.cells #[.int .u32 e, .int .i64 0, .int .u32 a, .int .u32 b, .int .u32 c] 50)
  refine (HC.out _).mono ?_
  rintro r W0 ⟨rfl, hs⟩
  have b1 := b0.same hs
  have c0 : W0.cell? ⟨w.heap.size, 0, none⟩ = some (.int .u32 e) := Bk.cell b1 0 _ rfl
  have c1 : W0.cell? ⟨w.heap.size, 1, none⟩ = some (.int .i64 0) := Bk.cell b1 1 _ rfl
  have B1 := Lib.hid b1
  have S0 := Lib.hid (s0.trans hs)
  clear b0 s0 hs b1
  go_wp2_with fail
  have ha : ∀ W, (Op.stringOp .add s0 s1).run Try.prog W = .ok (.string (s0 ++ s1)) W := fun W => run_string_add W s0 s1 (by omega) (by omega)
  have w0 : IntKind.u64.wrap 0 = 0 := by decide
  have we : IntKind.u64.wrap e = e := by rw [IntKind.wrap_u64]; omega
  go_region_held3 (fun W' => W'.cell? ⟨w.heap.size, 0, none⟩ = some (.int .u32 e) ∧ W'.cell? ⟨w.heap.size, 1, none⟩ = some (.int .i64 0)) (first | exact ⟨k0, k1⟩ | exact ⟨c0, c1⟩) (first | ((go_at_call 41; (with_reducible refine (HN0.out _).mono ?_)); rintro r w1 ⟨rfl, hs1⟩; have k0 := Same.cell hs1 c0; have k1 := Same.cell hs1 c1; have HS1 := Lib.hid hs1; clear hs1) | ((go_at_call 41; (with_reducible refine (HN1.out _).mono ?_)); rintro r w2 ⟨rfl, hs2⟩; have k0 := Same.cell hs2 k0; have k1 := Same.cell hs2 k1; have HS2 := Lib.hid hs2; clear hs2))
  clear w0 we ha
  have b2 := Bk.same (Bk.same (Bk.drew B1.out) HS1.out) HS2.out
  have T2 := Lib.hid (Same.trans (Same.trans (Same.drewN S0.out 1) HS1.out) HS2.out)
  have x1 : w2.cell? ⟨w.heap.size, 1, none⟩ = some (.int .i64 0) := Bk.cell b2 1 _ rfl
  have x2 : w2.cell? ⟨w.heap.size, 2, none⟩ = some (.int .u32 a) := Bk.cell b2 2 _ rfl
  have x3 : w2.cell? ⟨w.heap.size, 3, none⟩ = some (.int .u32 b) := Bk.cell b2 3 _ rfl
  have x4 : w2.cell? ⟨w.heap.size, 4, none⟩ = some (.int .u32 c) := Bk.cell b2 4 _ rfl
  have B2 := Lib.hid b2
  clear b2
  go_wp2_with fail
  refine wp_loop_rounds 1 ?_
  rw [rounds_succ]
  go_wp2_with fail
  go_ret2
  exact ⟨rfl, T2.out⟩

set_option maxRecDepth 20000 in
set_option maxHeartbeats 1000000 in
theorem fwrite_1 (e a b c : Int) (w : World) (he : 0 ≤ e) (ke : e ≤ 1048576) (ha : 0 ≤ a) (ka : a ≤ 1048576) (hc : Tm.check ⟨e, 1, a, b, c⟩ = 0) : Calls Try.prog 42 #[.agg #[.int .u32 e, .int .i64 1, .int .u32 a, .int .u32 b, .int .u32 c]] w fun r w' =>
    r = .returned (.tuple #[.string ((ofL (numB 1) ++ ofL (numB e.toNat)) ++ ofL (numB a.toNat)), .int .i64 0]) ∧ Same w w' := by
  have hC := fun W => check34 ⟨e, 1, a, b, c⟩ W
  rw [hc] at hC
  have HC := Lib.hid hC
  clear hC hc
  have HN0 := Lib.hid (fun W => fNumI 1 W (by omega) (by omega))
  have HN1 := Lib.hid (fun W => fNumI e W (by omega) (by omega))
  have HNa := Lib.hid (fun W => fNumI a W (by omega) (by omega))
  have z0 : numB (Int.toNat 1) = numB 1 := rfl
  rw [z0] at HN0
  clear z0
  have q0 : (ofL (numB 1)).size ≤ 10 := len10 _ (by omega)
  generalize ofL (numB 1) = s0 at HN0 q0 ⊢
  have q1 : (ofL (numB e.toNat)).size ≤ 10 := len10 _ (by omega)
  generalize ofL (numB e.toNat) = s1 at HN1 q1 ⊢
  have qa : (ofL (numB a.toNat)).size ≤ 10 := len10 _ (by omega)
  generalize ofL (numB a.toNat) = sa at HNa qa ⊢
  go_enter Try.func42, Try.ntmps42
  go_wp2_with fail
  have b0 := Bk.new w 50 #[.int .u32 e, .int .i64 1, .int .u32 a, .int .u32 b, .int .u32 c]
  have s0 := (Same.refl w).alloc (.cells #[.int .u32 e, .int .i64 1, .int .u32 a, .int .u32 b, .int .u32 c] 50)
  refine (HC.out _).mono ?_
  rintro r W0 ⟨rfl, hs⟩
  have b1 := b0.same hs
  have c0 : W0.cell? ⟨w.heap.size, 0, none⟩ = some (.int .u32 e) := Bk.cell b1 0 _ rfl
  have c1 : W0.cell? ⟨w.heap.size, 1, none⟩ = some (.int .i64 1) := Bk.cell b1 1 _ rfl
  have B1 := Lib.hid b1
  have S0 := Lib.hid (s0.trans hs)
  clear b0 s0 hs b1
  go_wp2_with fail
  have ha : ∀ W, (Op.stringOp .add s0 s1).run Try.prog W = .ok (.string (s0 ++ s1)) W := fun W => run_string_add W s0 s1 (by omega) (by omega)
  have w0 : IntKind.u64.wrap 1 = 1 := by decide
  have we : IntKind.u64.wrap e = e := by rw [IntKind.wrap_u64]; omega
  go_region_held3 (fun W' => W'.cell? ⟨w.heap.size, 0, none⟩ = some (.int .u32 e) ∧ W'.cell? ⟨w.heap.size, 1, none⟩ = some (.int .i64 1)) (first | exact ⟨k0, k1⟩ | exact ⟨c0, c1⟩) (first | ((go_at_call 41; (with_reducible refine (HN0.out _).mono ?_)); rintro r w1 ⟨rfl, hs1⟩; have k0 := Same.cell hs1 c0; have k1 := Same.cell hs1 c1; have HS1 := Lib.hid hs1; clear hs1) | ((go_at_call 41; (with_reducible refine (HN1.out _).mono ?_)); rintro r w2 ⟨rfl, hs2⟩; have k0 := Same.cell hs2 k0; have k1 := Same.cell hs2 k1; have HS2 := Lib.hid hs2; clear hs2))
  clear w0 we ha
  have b2 := Bk.same (Bk.same (Bk.drew B1.out) HS1.out) HS2.out
  have T2 := Lib.hid (Same.trans (Same.trans (Same.drewN S0.out 1) HS1.out) HS2.out)
  have x1 : w2.cell? ⟨w.heap.size, 1, none⟩ = some (.int .i64 1) := Bk.cell b2 1 _ rfl
  have x2 : w2.cell? ⟨w.heap.size, 2, none⟩ = some (.int .u32 a) := Bk.cell b2 2 _ rfl
  have x3 : w2.cell? ⟨w.heap.size, 3, none⟩ = some (.int .u32 b) := Bk.cell b2 3 _ rfl
  have x4 : w2.cell? ⟨w.heap.size, 4, none⟩ = some (.int .u32 c) := Bk.cell b2 4 _ rfl
  have B2 := Lib.hid b2
  clear b2
  go_wp2_with fail
  refine wp_loop_rounds 2 ?_
  have wx : IntKind.u64.wrap a = a := by rw [IntKind.wrap_u64]; omega
  rw [rounds_succ]
  go_wp2_with fail
  refine (HNa.out _).mono ?_
  rintro r w3 ⟨rfl, hs⟩
  have b3 := Bk.same (Bk.drewN B2.out 0) hs
  have T3 := Lib.hid (Same.trans T2.out hs)
  clear hs x1 x2 x3 x4 wx
  have x1 : w3.cell? ⟨w.heap.size, 1, none⟩ = some (.int .i64 1) := Bk.cell b3 1 _ rfl
  have x2 : w3.cell? ⟨w.heap.size, 2, none⟩ = some (.int .u32 a) := Bk.cell b3 2 _ rfl
  have x3 : w3.cell? ⟨w.heap.size, 3, none⟩ = some (.int .u32 b) := Bk.cell b3 3 _ rfl
  have x4 : w3.cell? ⟨w.heap.size, 4, none⟩ = some (.int .u32 c) := Bk.cell b3 4 _ rfl
  have B3 := Lib.hid b3
  clear b3
  go_wp2_with fail
  rw [rounds_succ]
  go_wp2_with fail
  go_ret2
  exact ⟨rfl, T3.out⟩

set_option maxRecDepth 20000 in
set_option maxHeartbeats 1000000 in
theorem fwrite_2 (e a b c : Int) (w : World) (he : 0 ≤ e) (ke : e ≤ 1048576) (ha : 0 ≤ a) (ka : a ≤ 1048576) (hb : 0 ≤ b) (kb : b ≤ 1048576) (hc : Tm.check ⟨e, 2, a, b, c⟩ = 0) : Calls Try.prog 42 #[.agg #[.int .u32 e, .int .i64 2, .int .u32 a, .int .u32 b, .int .u32 c]] w fun r w' =>
    r = .returned (.tuple #[.string (((ofL (numB 2) ++ ofL (numB e.toNat)) ++ ofL (numB a.toNat)) ++ ofL (numB b.toNat)), .int .i64 0]) ∧ Same w w' := by
  have hC := fun W => check34 ⟨e, 2, a, b, c⟩ W
  rw [hc] at hC
  have HC := Lib.hid hC
  clear hC hc
  have HN0 := Lib.hid (fun W => fNumI 2 W (by omega) (by omega))
  have HN1 := Lib.hid (fun W => fNumI e W (by omega) (by omega))
  have HNa := Lib.hid (fun W => fNumI a W (by omega) (by omega))
  have HNb := Lib.hid (fun W => fNumI b W (by omega) (by omega))
  have z0 : numB (Int.toNat 2) = numB 2 := rfl
  rw [z0] at HN0
  clear z0
  have q0 : (ofL (numB 2)).size ≤ 10 := len10 _ (by omega)
  generalize ofL (numB 2) = s0 at HN0 q0 ⊢
  have q1 : (ofL (numB e.toNat)).size ≤ 10 := len10 _ (by omega)
  generalize ofL (numB e.toNat) = s1 at HN1 q1 ⊢
  have qa : (ofL (numB a.toNat)).size ≤ 10 := len10 _ (by omega)
  generalize ofL (numB a.toNat) = sa at HNa qa ⊢
  have qb : (ofL (numB b.toNat)).size ≤ 10 := len10 _ (by omega)
  generalize ofL (numB b.toNat) = sb at HNb qb ⊢
  go_enter Try.func42, Try.ntmps42
  go_wp2_with fail
  have b0 := Bk.new w 50 #[.int .u32 e, .int .i64 2, .int .u32 a, .int .u32 b, .int .u32 c]
  have s0 := (Same.refl w).alloc (.cells #[.int .u32 e, .int .i64 2, .int .u32 a, .int .u32 b, .int .u32 c] 50)
  refine (HC.out _).mono ?_
  rintro r W0 ⟨rfl, hs⟩
  have b1 := b0.same hs
  have c0 : W0.cell? ⟨w.heap.size, 0, none⟩ = some (.int .u32 e) := Bk.cell b1 0 _ rfl
  have c1 : W0.cell? ⟨w.heap.size, 1, none⟩ = some (.int .i64 2) := Bk.cell b1 1 _ rfl
  have B1 := Lib.hid b1
  have S0 := Lib.hid (s0.trans hs)
  clear b0 s0 hs b1
  go_wp2_with fail
  have ha : ∀ W, (Op.stringOp .add s0 s1).run Try.prog W = .ok (.string (s0 ++ s1)) W := fun W => run_string_add W s0 s1 (by omega) (by omega)
  have w0 : IntKind.u64.wrap 2 = 2 := by decide
  have we : IntKind.u64.wrap e = e := by rw [IntKind.wrap_u64]; omega
  go_region_held3 (fun W' => W'.cell? ⟨w.heap.size, 0, none⟩ = some (.int .u32 e) ∧ W'.cell? ⟨w.heap.size, 1, none⟩ = some (.int .i64 2)) (first | exact ⟨k0, k1⟩ | exact ⟨c0, c1⟩) (first | ((go_at_call 41; (with_reducible refine (HN0.out _).mono ?_)); rintro r w1 ⟨rfl, hs1⟩; have k0 := Same.cell hs1 c0; have k1 := Same.cell hs1 c1; have HS1 := Lib.hid hs1; clear hs1) | ((go_at_call 41; (with_reducible refine (HN1.out _).mono ?_)); rintro r w2 ⟨rfl, hs2⟩; have k0 := Same.cell hs2 k0; have k1 := Same.cell hs2 k1; have HS2 := Lib.hid hs2; clear hs2))
  clear w0 we ha
  have b2 := Bk.same (Bk.same (Bk.drew B1.out) HS1.out) HS2.out
  have T2 := Lib.hid (Same.trans (Same.trans (Same.drewN S0.out 1) HS1.out) HS2.out)
  have x1 : w2.cell? ⟨w.heap.size, 1, none⟩ = some (.int .i64 2) := Bk.cell b2 1 _ rfl
  have x2 : w2.cell? ⟨w.heap.size, 2, none⟩ = some (.int .u32 a) := Bk.cell b2 2 _ rfl
  have x3 : w2.cell? ⟨w.heap.size, 3, none⟩ = some (.int .u32 b) := Bk.cell b2 3 _ rfl
  have x4 : w2.cell? ⟨w.heap.size, 4, none⟩ = some (.int .u32 c) := Bk.cell b2 4 _ rfl
  have B2 := Lib.hid b2
  clear b2
  go_wp2_with fail
  refine wp_loop_rounds 3 ?_
  have wx : IntKind.u64.wrap a = a := by rw [IntKind.wrap_u64]; omega
  rw [rounds_succ]
  go_wp2_with fail
  refine (HNa.out _).mono ?_
  rintro r w3 ⟨rfl, hs⟩
  have b3 := Bk.same (Bk.drewN B2.out 0) hs
  have T3 := Lib.hid (Same.trans T2.out hs)
  clear hs x1 x2 x3 x4 wx
  have x1 : w3.cell? ⟨w.heap.size, 1, none⟩ = some (.int .i64 2) := Bk.cell b3 1 _ rfl
  have x2 : w3.cell? ⟨w.heap.size, 2, none⟩ = some (.int .u32 a) := Bk.cell b3 2 _ rfl
  have x3 : w3.cell? ⟨w.heap.size, 3, none⟩ = some (.int .u32 b) := Bk.cell b3 3 _ rfl
  have x4 : w3.cell? ⟨w.heap.size, 4, none⟩ = some (.int .u32 c) := Bk.cell b3 4 _ rfl
  have B3 := Lib.hid b3
  clear b3
  go_wp2_with fail
  have wx : IntKind.u64.wrap b = b := by rw [IntKind.wrap_u64]; omega
  rw [rounds_succ]
  go_wp2_with fail
  refine (HNb.out _).mono ?_
  rintro r w4 ⟨rfl, hs⟩
  have b4 := Bk.same (Bk.drewN B3.out 0) hs
  have T4 := Lib.hid (Same.trans T3.out hs)
  clear hs x1 x2 x3 x4 wx
  have x1 : w4.cell? ⟨w.heap.size, 1, none⟩ = some (.int .i64 2) := Bk.cell b4 1 _ rfl
  have x2 : w4.cell? ⟨w.heap.size, 2, none⟩ = some (.int .u32 a) := Bk.cell b4 2 _ rfl
  have x3 : w4.cell? ⟨w.heap.size, 3, none⟩ = some (.int .u32 b) := Bk.cell b4 3 _ rfl
  have x4 : w4.cell? ⟨w.heap.size, 4, none⟩ = some (.int .u32 c) := Bk.cell b4 4 _ rfl
  have B4 := Lib.hid b4
  clear b4
  go_wp2_with fail
  rw [rounds_succ]
  go_wp2_with fail
  go_ret2
  exact ⟨rfl, T4.out⟩

set_option maxRecDepth 20000 in
set_option maxHeartbeats 1000000 in
theorem fwrite_3 (e a b c : Int) (w : World) (he : 0 ≤ e) (ke : e ≤ 1048576) (ha : 0 ≤ a) (ka : a ≤ 1048576) (hb : 0 ≤ b) (kb : b ≤ 1048576) (hc : 0 ≤ c) (kc : c ≤ 1048576) (hc : Tm.check ⟨e, 3, a, b, c⟩ = 0) : Calls Try.prog 42 #[.agg #[.int .u32 e, .int .i64 3, .int .u32 a, .int .u32 b, .int .u32 c]] w fun r w' =>
    r = .returned (.tuple #[.string ((((ofL (numB 3) ++ ofL (numB e.toNat)) ++ ofL (numB a.toNat)) ++ ofL (numB b.toNat)) ++ ofL (numB c.toNat)), .int .i64 0]) ∧ Same w w' := by
  have hC := fun W => check34 ⟨e, 3, a, b, c⟩ W
  rw [hc] at hC
  have HC := Lib.hid hC
  clear hC hc
  have HN0 := Lib.hid (fun W => fNumI 3 W (by omega) (by omega))
  have HN1 := Lib.hid (fun W => fNumI e W (by omega) (by omega))
  have HNa := Lib.hid (fun W => fNumI a W (by omega) (by omega))
  have HNb := Lib.hid (fun W => fNumI b W (by omega) (by omega))
  have HNc := Lib.hid (fun W => fNumI c W (by omega) (by omega))
  have z0 : numB (Int.toNat 3) = numB 3 := rfl
  rw [z0] at HN0
  clear z0
  have q0 : (ofL (numB 3)).size ≤ 10 := len10 _ (by omega)
  generalize ofL (numB 3) = s0 at HN0 q0 ⊢
  have q1 : (ofL (numB e.toNat)).size ≤ 10 := len10 _ (by omega)
  generalize ofL (numB e.toNat) = s1 at HN1 q1 ⊢
  have qa : (ofL (numB a.toNat)).size ≤ 10 := len10 _ (by omega)
  generalize ofL (numB a.toNat) = sa at HNa qa ⊢
  have qb : (ofL (numB b.toNat)).size ≤ 10 := len10 _ (by omega)
  generalize ofL (numB b.toNat) = sb at HNb qb ⊢
  have qc : (ofL (numB c.toNat)).size ≤ 10 := len10 _ (by omega)
  generalize ofL (numB c.toNat) = sc at HNc qc ⊢
  go_enter Try.func42, Try.ntmps42
  go_wp2_with fail
  have b0 := Bk.new w 50 #[.int .u32 e, .int .i64 3, .int .u32 a, .int .u32 b, .int .u32 c]
  have s0 := (Same.refl w).alloc (.cells #[.int .u32 e, .int .i64 3, .int .u32 a, .int .u32 b, .int .u32 c] 50)
  refine (HC.out _).mono ?_
  rintro r W0 ⟨rfl, hs⟩
  have b1 := b0.same hs
  have c0 : W0.cell? ⟨w.heap.size, 0, none⟩ = some (.int .u32 e) := Bk.cell b1 0 _ rfl
  have c1 : W0.cell? ⟨w.heap.size, 1, none⟩ = some (.int .i64 3) := Bk.cell b1 1 _ rfl
  have B1 := Lib.hid b1
  have S0 := Lib.hid (s0.trans hs)
  clear b0 s0 hs b1
  go_wp2_with fail
  have ha : ∀ W, (Op.stringOp .add s0 s1).run Try.prog W = .ok (.string (s0 ++ s1)) W := fun W => run_string_add W s0 s1 (by omega) (by omega)
  have w0 : IntKind.u64.wrap 3 = 3 := by decide
  have we : IntKind.u64.wrap e = e := by rw [IntKind.wrap_u64]; omega
  go_region_held3 (fun W' => W'.cell? ⟨w.heap.size, 0, none⟩ = some (.int .u32 e) ∧ W'.cell? ⟨w.heap.size, 1, none⟩ = some (.int .i64 3)) (first | exact ⟨k0, k1⟩ | exact ⟨c0, c1⟩) (first | ((go_at_call 41; (with_reducible refine (HN0.out _).mono ?_)); rintro r w1 ⟨rfl, hs1⟩; have k0 := Same.cell hs1 c0; have k1 := Same.cell hs1 c1; have HS1 := Lib.hid hs1; clear hs1) | ((go_at_call 41; (with_reducible refine (HN1.out _).mono ?_)); rintro r w2 ⟨rfl, hs2⟩; have k0 := Same.cell hs2 k0; have k1 := Same.cell hs2 k1; have HS2 := Lib.hid hs2; clear hs2))
  clear w0 we ha
  have b2 := Bk.same (Bk.same (Bk.drew B1.out) HS1.out) HS2.out
  have T2 := Lib.hid (Same.trans (Same.trans (Same.drewN S0.out 1) HS1.out) HS2.out)
  have x1 : w2.cell? ⟨w.heap.size, 1, none⟩ = some (.int .i64 3) := Bk.cell b2 1 _ rfl
  have x2 : w2.cell? ⟨w.heap.size, 2, none⟩ = some (.int .u32 a) := Bk.cell b2 2 _ rfl
  have x3 : w2.cell? ⟨w.heap.size, 3, none⟩ = some (.int .u32 b) := Bk.cell b2 3 _ rfl
  have x4 : w2.cell? ⟨w.heap.size, 4, none⟩ = some (.int .u32 c) := Bk.cell b2 4 _ rfl
  have B2 := Lib.hid b2
  clear b2
  go_wp2_with fail
  refine wp_loop_rounds 4 ?_
  have wx : IntKind.u64.wrap a = a := by rw [IntKind.wrap_u64]; omega
  rw [rounds_succ]
  go_wp2_with fail
  refine (HNa.out _).mono ?_
  rintro r w3 ⟨rfl, hs⟩
  have b3 := Bk.same (Bk.drewN B2.out 0) hs
  have T3 := Lib.hid (Same.trans T2.out hs)
  clear hs x1 x2 x3 x4 wx
  have x1 : w3.cell? ⟨w.heap.size, 1, none⟩ = some (.int .i64 3) := Bk.cell b3 1 _ rfl
  have x2 : w3.cell? ⟨w.heap.size, 2, none⟩ = some (.int .u32 a) := Bk.cell b3 2 _ rfl
  have x3 : w3.cell? ⟨w.heap.size, 3, none⟩ = some (.int .u32 b) := Bk.cell b3 3 _ rfl
  have x4 : w3.cell? ⟨w.heap.size, 4, none⟩ = some (.int .u32 c) := Bk.cell b3 4 _ rfl
  have B3 := Lib.hid b3
  clear b3
  go_wp2_with fail
  have wx : IntKind.u64.wrap b = b := by rw [IntKind.wrap_u64]; omega
  rw [rounds_succ]
  go_wp2_with fail
  refine (HNb.out _).mono ?_
  rintro r w4 ⟨rfl, hs⟩
  have b4 := Bk.same (Bk.drewN B3.out 0) hs
  have T4 := Lib.hid (Same.trans T3.out hs)
  clear hs x1 x2 x3 x4 wx
  have x1 : w4.cell? ⟨w.heap.size, 1, none⟩ = some (.int .i64 3) := Bk.cell b4 1 _ rfl
  have x2 : w4.cell? ⟨w.heap.size, 2, none⟩ = some (.int .u32 a) := Bk.cell b4 2 _ rfl
  have x3 : w4.cell? ⟨w.heap.size, 3, none⟩ = some (.int .u32 b) := Bk.cell b4 3 _ rfl
  have x4 : w4.cell? ⟨w.heap.size, 4, none⟩ = some (.int .u32 c) := Bk.cell b4 4 _ rfl
  have B4 := Lib.hid b4
  clear b4
  go_wp2_with fail
  have wx : IntKind.u64.wrap c = c := by rw [IntKind.wrap_u64]; omega
  rw [rounds_succ]
  go_wp2_with fail
  refine (HNc.out _).mono ?_
  rintro r w5 ⟨rfl, hs⟩
  have b5 := Bk.same (Bk.drewN B4.out 0) hs
  have T5 := Lib.hid (Same.trans T4.out hs)
  clear hs x1 x2 x3 x4 wx
  have x1 : w5.cell? ⟨w.heap.size, 1, none⟩ = some (.int .i64 3) := Bk.cell b5 1 _ rfl
  have x2 : w5.cell? ⟨w.heap.size, 2, none⟩ = some (.int .u32 a) := Bk.cell b5 2 _ rfl
  have x3 : w5.cell? ⟨w.heap.size, 3, none⟩ = some (.int .u32 b) := Bk.cell b5 3 _ rfl
  have x4 : w5.cell? ⟨w.heap.size, 4, none⟩ = some (.int .u32 c) := Bk.cell b5 4 _ rfl
  have B5 := Lib.hid b5
  clear b5
  go_wp2_with fail
  rw [rounds_succ]
  go_wp2_with fail
  go_ret2
  exact ⟨rfl, T5.out⟩
end Go.Proofs.Ytjmnncggjgmfdaa
