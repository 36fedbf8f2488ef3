/- Counts, written by the reference. -/
import Derived.Test.YtjmnncggjgmfdaaV5
namespace Go.Proofs.Ytjmnncggjgmfdaa
open Go.RowKit Ws
set_option linter.unusedVariables false
set_option linter.unusedSimpArgs false

/-- The reference's fold. -/
def RFoldOk : Prop := ∀ (v : Value) (l : List Dl) (w : World), Rd w 7 encD v l → (∀ x ∈ l, x.Ok) → l.length ≤ 1000000 → Calls Try.prog 7 #[v] w (FoldR w.heap.size l w)

set_option maxRecDepth 20000 in
set_option maxHeartbeats 2000000 in
theorem fdwrite (hrf : RFoldOk) (v : Value) (l : List Dl) (w : World) (hv : Rd w 7 encD v l) (ok : ∀ x ∈ l, x.Ok) (hlen : l.length ≤ 1000000) : Calls Try.prog 9 #[v] w fun r w' => r = writeR l ∧ Same w w' := by
  have HF := Lib.hid (hrf v l w hv ok hlen)
  obtain ⟨ys, k, hf⟩ : ∃ ys k, fold l = (ys, k) := ⟨_, _, rfl⟩
  have hfl : ys.length ≤ 256 := by have := fold_len l; rw [hf] at this; exact this
  have hrq : right l = (decide (k = 0) && decide (ys = l)) := by unfold right; rw [hf]; simp
  have HR := Lib.hid hv
  have HK := Lib.hid ok
  obtain ⟨A, c, rfl, hc⟩ := hv.len
  clear hv ok hrf
  by_cases hr : right l = true
  · have hrr := hr
    simp only [right, decide_eq_true_eq] at hrr
    have hl : l.length ≤ 256 := by have := fold_len l; rwa [hrr.2] at this
    have HC : Hid (∀ x ∈ l, x.check = 0) := errs_zero (fold_errs hrr.1)
    have HE : Hid (writeR l = .returned (.tuple #[.string (ofL (numB l.length ++ bytesC l)), .int .i64 0])) := by unfold Hid writeR writeC; rw [if_pos hr]
    have hk : k = 0 := by rw [hf] at hrr; exact hrr.1
    have hys : ys = l := by rw [hf] at hrr; exact hrr.2
    have z1 : (k == 0) = true := by simp [hk]
    have z2 : (k != 0) = false := by simp [hk]
    clear hr hrr hrq hk
    have HN := Lib.hid (fun W => fNumI l.length W (by omega) (by omega))
    rw [show ((l.length : Int)).toNat = l.length from Int.toNat_natCast _] at HN
    have wl : IntKind.u64.wrap (l.length : Int) = l.length := by rw [IntKind.wrap_u64]; omega
    go_enter Try.func9, Try.ntmps9
    go_wp2_with fail
    refine HF.out.mono ?_
    rintro r W1 ⟨u, rfl, ho, hs⟩
    rw [hf] at ho ⊢
    have hE := Lib.hid (sameR u (.slice A l.length c) ys l W1 ho.rd (HR.out.same hs) (by omega) hlen)
    rw [show decide (ys = l) = true by simp [hys]] at hE
    have HS1 := Lib.hid hs
    clear hs ho
    go_wp2_with fail
    refine hE.out.mono ?_
    rintro r W1' ⟨rfl, q, rfl⟩
    have HS1 := Lib.hid (HS1.out.drewN q)
    go_wp2_with fail
    refine (HN.out _).mono ?_
    rintro r W2 ⟨rfl, hs⟩
    have HS2 := Lib.hid (HS1.out.trans hs)
    clear hs HS1
    go_wp2_with fail
    go_loopw [6, 7] (fun sv iv wr => ∃ i : Nat, sv = .string (ofL (numB l.length ++ bytesC (l.take i))) ∧ iv = .int .i64 i ∧ i ≤ l.length ∧ Hid (Same w wr)) (fun _ iv _ => l.length - (intOf iv).toNat)
    case atStart => exact ⟨0, by simp [bytesC], rfl, by omega, HS2.out⟩
    case round =>
      obtain ⟨i, rfl, rfl, hi, HS⟩ := hrel
      rcases Nat.lt_or_ge i l.length with hil | hil
      · obtain ⟨x, hx⟩ : ∃ x, l[i]? = some x := ⟨_, List.getElem?_eq_getElem hil⟩
        have hxm := List.mem_of_getElem? hx
        obtain ⟨bb, oo, hA, hab, hcell⟩ := at7 (Rd.same HR.out HS.out) (fun _ => rfl) (by decide) i x hx
        subst hA
        have k0 : wr.cell? ⟨bb, oo + i * 7, none⟩ = some (.int .i64 x.l) := hcell 0 _ rfl
        have k1 : wr.cell? ⟨bb, oo + i * 7 + 1, none⟩ = some (.int .u32 x.t.e) := hcell 1 _ rfl
        have k2 : wr.cell? ⟨bb, oo + i * 7 + 2, none⟩ = some (.int .i64 x.t.d) := hcell 2 _ rfl
        have k3 : wr.cell? ⟨bb, oo + i * 7 + 3, none⟩ = some (.int .u32 x.t.a) := hcell 3 _ rfl
        have k4 : wr.cell? ⟨bb, oo + i * 7 + 4, none⟩ = some (.int .u32 x.t.b) := hcell 4 _ rfl
        have k5 : wr.cell? ⟨bb, oo + i * 7 + 5, none⟩ = some (.int .u32 x.t.c) := hcell 5 _ rfl
        have k6 : wr.cell? ⟨bb, oo + i * 7 + 6, none⟩ = some (.int .i64 x.n) := hcell 6 _ rfl
        clear hcell
        have hi2 : (i : Int) < l.length := by omega
        obtain ⟨hb1, hb2, hb3, hb4⟩ := check_zero (HC.out x hxm)
        have okx := HK.out x hxm
        have hw3 : writeT x.t = .returned (.tuple #[.string (ofL x.t.bytes), .int .i64 0]) := by unfold writeT Tm.write; rw [if_pos hb3]
        have HW := fun W => fwrite x.t W okx.t
        rw [hw3] at HW
        have HN0 := Lib.hid (fun W => fNumI x.l W hb1 (by omega))
        have HN1 := Lib.hid (fun W => fSignedW x.n W okx.n0 okx.n1)
        have HX : Hid (ofL (numB l.length ++ bytesC (l.take (i + 1))) = ofL (numB l.length ++ bytesC (l.take i)) ++ ofL (numB x.l.toNat) ++ ofL x.t.bytes ++ ofL (numB (zig x.n))) := by
          unfold Hid
          rw [List.take_add_one, hx, bytesC_app]
          simp only [Option.toList_some, bytesC, List.append_nil, Dl.bytes, Tm.write]
          rw [if_pos hb3]
          simp only [ofL_append, List.append_assoc]
        have q0 : (ofL (numB l.length ++ bytesC (l.take i))).size ≤ 100000 := by
          rw [ofL_size, List.length_append]
          have h1 := len10' l.length (by omega)
          have h2 := bytesC_len (l := l.take i) (fun y hy => HK.out y (List.mem_of_mem_take hy)) (fun y hy => HC.out y (List.mem_of_mem_take hy))
          have h3 : (l.take i).length ≤ 256 := by rw [List.length_take]; omega
          omega
        have q1 : (ofL (numB x.l.toNat)).size ≤ 10 := len10 _ (by omega)
        have q2 : (ofL x.t.bytes).size ≤ 50 := tbytes_len okx.t hb3
        have q3 : (ofL (numB (zig x.n))).size ≤ 10 := zig_len _ okx.n0 okx.n1
        have wx : IntKind.u64.wrap x.l = x.l := by rw [IntKind.wrap_u64]; omega
        clear hw3 hb1 hb2 hb3 hb4 okx
        generalize ofL (numB l.length ++ bytesC (l.take i)) = s0 at HX q0
        generalize ofL (numB x.l.toNat) = s1 at HX q1 HN0
        generalize ofL x.t.bytes = s2 at HX q2 HW
        generalize ofL (numB (zig x.n)) = s3 at HX q3 HN1
        have HW := Lib.hid HW
        go_wp2_with fail
        refine (HW.out _).mono ?_
        rintro r W3 ⟨rfl, hs⟩
        have HS3 := Lib.hid (HS.out.trans hs)
        have c0 : W3.cell? ⟨bb, oo + i * 7, none⟩ = some (.int .i64 x.l) := Same.cell hs k0
        have c1 : W3.cell? ⟨bb, oo + i * 7 + 6, none⟩ = some (.int .i64 x.n) := Same.cell hs k6
        clear hs k0 k1 k2 k3 k4 k5 k6
        go_wp2_with fail
        have a1 : ∀ W, (Op.stringOp .add s0 s1).run Try.prog W = .ok (.string (s0 ++ s1)) W := fun W => run_string_add W s0 s1 (by omega) (by omega)
        have a2 : ∀ W, (Op.stringOp .add (s0 ++ s1) s2).run Try.prog W = .ok (.string (s0 ++ s1 ++ s2)) W := fun W => run_string_add W (s0 ++ s1) s2 (by rw [ByteArray.size_append]; omega) (by omega)
        have a3 : ∀ W, (Op.stringOp .add (s0 ++ s1 ++ s2) s3).run Try.prog W = .ok (.string (s0 ++ s1 ++ s2 ++ s3)) W := fun W => run_string_add W (s0 ++ s1 ++ s2) s3 (by rw [ByteArray.size_append, ByteArray.size_append]; omega) (by omega)
        go_region_held3 (fun W' => W'.cell? ⟨bb, oo + i * 7, none⟩ = some (.int .i64 x.l) ∧ W'.cell? ⟨bb, oo + i * 7 + 6, none⟩ = some (.int .i64 x.n)) (first | exact ⟨k0, k1⟩ | exact ⟨c0, c1⟩) (first | ((go_at_call 41; (with_reducible refine (HN0.out _).mono ?_)); rintro r w1 ⟨rfl, hs1⟩; have k0 := Same.cell hs1 c0; have k1 := Same.cell hs1 c1; have HT1 := Lib.hid hs1; clear hs1) | ((go_at_call 43; (with_reducible refine (HN1.out _).mono ?_)); rintro r w2 ⟨rfl, hs2⟩; have k0 := Same.cell hs2 k0; have k1 := Same.cell hs2 k1; have HT2 := Lib.hid hs2; clear hs2))
        go_wp2_with fail
        go_roundw
        case rel => exact ⟨i + 1, by rw [HX.out], by go_num, by omega, ((HS3.out.drewN 1).trans HT1.out).trans HT2.out⟩
        case measure => simp [intOf]; omega
      · obtain rfl : i = l.length := by omega
        have hi2 : ¬ ((l.length : Int) < l.length) := by omega
        rw [List.take_length]
        go_wp2_with fail
        go_ret2
        exact ⟨by rw [HE.out]; rfl, HS.out⟩
  · have hr : right l = false := by simpa using hr
    have HE : Hid (writeR l = .returned (.tuple #[.string (ofL []), .int .i64 6])) := by unfold Hid writeR writeC; rw [hr]; rfl
    rw [hr] at hrq
    by_cases hk : k = 0
    · have hys : decide (ys = l) = false := by simpa [hk] using hrq.symm
      have z1 : (k == 0) = true := by simp [hk]
      have z2 : (k != 0) = false := by simp [hk]
      clear hr hrq hk
      go_enter Try.func9, Try.ntmps9
      go_wp2_with fail
      refine HF.out.mono ?_
      rintro r W1 ⟨u, rfl, ho, hs⟩
      rw [hf] at ho ⊢
      have hE := Lib.hid (sameR u (.slice A l.length c) ys l W1 ho.rd (HR.out.same hs) (by omega) hlen)
      rw [hys] at hE
      have HS1 := Lib.hid hs
      clear hs ho
      go_wp2_with fail
      refine hE.out.mono ?_
      rintro r W1' ⟨rfl, q, rfl⟩
      go_wp2_with fail
      go_ret2
      exact ⟨by rw [HE.out]; rfl, HS1.out.drewN q⟩
    · have z1 : (k == 0) = false := by simp [hk]
      have z2 : (k != 0) = true := by simp [hk]
      clear hr hrq hk
      go_enter Try.func9, Try.ntmps9
      go_wp2_with fail
      refine HF.out.mono ?_
      rintro r W1 ⟨u, rfl, ho, hs⟩
      rw [hf] at ho ⊢
      have HS1 := Lib.hid hs
      clear hs ho
      go_wp2_with fail
      go_ret2
      exact ⟨by rw [HE.out]; rfl, HS1.out⟩
end Go.Proofs.Ytjmnncggjgmfdaa
