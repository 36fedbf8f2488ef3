/- Counts, folded by the reference. -/
import Derived.Test.YtjmnncggjgmfdaaM4
namespace Go.Proofs.Ytjmnncggjgmfdaa
open Go.RowKit Ws
set_option linter.unusedVariables false
set_option linter.unusedSimpArgs false

set_option maxRecDepth 20000 in
set_option maxHeartbeats 4000000 in
theorem rfold_walk : RFoldOk := by
  intro v l w hv ok hlen
  have HR := Lib.hid hv
  have HK := Lib.hid ok
  obtain ⟨A, c, rfl, hc⟩ := hv.len
  clear hv ok
  by_cases h4 : 4096 < l.length
  · have HE : Hid (fold l = ([], 7)) := by unfold Hid fold; rw [if_pos h4]
    have hg : decide ((l.length : Int) > 4096) = true := by simp; omega
    go_enter Try.func7, Try.ntmps7
    go_wp2_with fail
    go_ret2
    refine ⟨.slice none 0 0, by rw [HE.out]; rfl, by rw [HE.out]; exact Own.nil _ _ _ _ _, Same.refl _⟩
  have h4' : l.length ≤ 4096 := by omega
  go_enter Try.func7, Try.ntmps7
  go_wp2_with fail
  go_loopw [4] (fun iv wr => ∃ i : Nat, iv = .int .i64 i ∧ i ≤ l.length ∧ Hid (Same w wr) ∧ Hid (∀ y ∈ l.take i, y.check = 0)) (fun iv _ => l.length - (intOf iv).toNat)
  case atStart => exact ⟨0, rfl, by omega, Same.refl w, by simp [Hid]⟩
  case round =>
    obtain ⟨i, rfl, hi, HS, HC⟩ := hrel
    rcases Nat.lt_or_ge i l.length with hil | hil
    · obtain ⟨x, hx⟩ : ∃ x, l[i]? = some x := ⟨_, List.getElem?_eq_getElem hil⟩
      obtain ⟨bb, oo, hA, hab, hcell⟩ := at7 (Rd.same HR.out HS.out) (fun _ => rfl) (by decide) i x hx
      subst hA
      have k0 : wr.cell? ⟨bb, oo + i * 7, none⟩ = some (.int .i64 x.l) := hcell 0 _ rfl
      have k1 : wr.cell? ⟨bb, oo + i * 7 + 1, none⟩ = some (.int .u32 x.t.e) := hcell 1 _ rfl
      have k2 : wr.cell? ⟨bb, oo + i * 7 + 1 + 1, none⟩ = some (.int .i64 x.t.d) := hcell 2 _ rfl
      have k3 : wr.cell? ⟨bb, oo + i * 7 + 1 + 2, none⟩ = some (.int .u32 x.t.a) := hcell 3 _ rfl
      have k4 : wr.cell? ⟨bb, oo + i * 7 + 1 + 3, none⟩ = some (.int .u32 x.t.b) := hcell 4 _ rfl
      have k5 : wr.cell? ⟨bb, oo + i * 7 + 1 + 4, none⟩ = some (.int .u32 x.t.c) := hcell 5 _ rfl
      have k6 : wr.cell? ⟨bb, oo + i * 7 + 6, none⟩ = some (.int .i64 x.n) := hcell 6 _ rfl
      clear hcell
      have hi2 : (i : Int) < l.length := by omega
      have HCk := Lib.hid (fun W => check34 x.t W)
      have HWn := Lib.hid (fun W => within21 x.n W)
      have hfe : x.check ≠ 0 → fold l = ([], x.check) := by
        intro hz
        have he := errs_at HC.out hx hz
        unfold fold
        rw [if_neg h4, if_neg (by rw [he]; exact hz), he]
      have htc : x.check = 0 → ∀ y ∈ l.take (i + 1), y.check = 0 := by
        intro hz
        rw [List.take_add_one, hx]
        intro y hy
        rcases List.mem_append.1 hy with hy | hy
        · exact HC.out y hy
        · have := List.mem_singleton.1 hy; subst this; exact hz
      have hcc : (x.l < 0 ∧ x.check = 1) ∨ (¬ x.l < 0 ∧ 1000 < x.l ∧ x.check = 1) ∨ (¬ x.l < 0 ∧ ¬ 1000 < x.l ∧ ((x.t.check ≠ 0 ∧ x.check = x.t.check) ∨ (x.t.check = 0 ∧ ((okN x.n ∧ x.check = 0) ∨ (¬ okN x.n ∧ x.check = 9))))) := by
        unfold Dl.check
        by_cases h1 : x.l < 0
        · simp [h1]
        · by_cases h2 : 1000 < x.l
          · simp [h1, h2]
          · by_cases h3 : x.t.check = 0
            · by_cases h4 : okN x.n <;> simp [h1, h2, h3, h4]
            · simp [h1, h2, h3]
      generalize x.t.check = k at hcc HCk
      rcases hcc with ⟨h1, h2⟩ | ⟨h1, h2, h3⟩ | ⟨h1, h2, h3⟩
      · have HE := Lib.hid (hfe (by rw [h2]; decide))
        rw [h2] at HE
        clear hfe htc h2
        go_wp2_with fail
        go_ret2
        exact ⟨.slice none 0 0, by rw [HE.out]; rfl, by rw [HE.out]; exact Own.nil _ _ _ _ _, HS.out⟩
      · have HE := Lib.hid (hfe (by rw [h3]; decide))
        rw [h3] at HE
        clear hfe htc h3
        go_wp2_with fail
        go_ret2
        exact ⟨.slice none 0 0, by rw [HE.out]; rfl, by rw [HE.out]; exact Own.nil _ _ _ _ _, HS.out⟩
      · have h1' : 0 ≤ x.l := by omega
        have h2' : x.l ≤ 1000 := by omega
        rcases h3 with ⟨h5, h6⟩ | ⟨h5, h6⟩
        · have HE := Lib.hid (hfe (by rw [h6]; exact h5))
          rw [h6] at HE
          have z1 : (k == 0) = false := by simp [h5]
          have z2 : (k != 0) = true := by simp [h5]
          clear hfe htc h6 h5
          go_wp2_with fail
          refine (HCk.out _).mono ?_
          rintro r W1 ⟨rfl, hs⟩
          have HS1 := Lib.hid hs
          clear hs
          go_wp2_with fail
          go_ret2
          exact ⟨.slice none 0 0, by rw [HE.out]; rfl, by rw [HE.out]; exact Own.nil _ _ _ _ _, HS.out.trans HS1.out⟩
        · have z1 : (k == 0) = true := by simp [h5]
          have z2 : (k != 0) = false := by simp [h5]
          clear h5
          rcases h6 with ⟨h7, h8⟩ | ⟨h7, h8⟩
          · have HT := Lib.hid (htc h8)
            rw [show decide (okN x.n) = true by simp [h7]] at HWn
            clear hfe htc h7 h8
            go_wp2_with fail
            refine (HCk.out _).mono ?_
            rintro r W1 ⟨rfl, hs⟩
            have HS1 := Lib.hid hs
            have k6' := Same.cell hs k6
            clear hs k0 k1 k2 k3 k4 k5 k6
            go_wp2_with fail
            refine (HWn.out _).mono ?_
            rintro r w' ⟨rfl, rfl⟩
            go_wp2_with fail
            go_roundw
            case rel => exact ⟨i + 1, by go_num, by omega, HS.out.trans HS1.out, HT.out⟩
            case measure => simp [intOf]; omega
          · have HE := Lib.hid (hfe (by rw [h8]; decide))
            rw [h8] at HE
            rw [show decide (okN x.n) = false by simp [h7]] at HWn
            clear hfe htc h7 h8
            go_wp2_with fail
            refine (HCk.out _).mono ?_
            rintro r W1 ⟨rfl, hs⟩
            have HS1 := Lib.hid hs
            have k6' := Same.cell hs k6
            clear hs k0 k1 k2 k3 k4 k5 k6
            go_wp2_with fail
            refine (HWn.out _).mono ?_
            rintro r w' ⟨rfl, rfl⟩
            go_wp2_with fail
            go_ret2
            exact ⟨.slice none 0 0, by rw [HE.out]; rfl, by rw [HE.out]; exact Own.nil _ _ _ _ _, HS.out.trans HS1.out⟩
    · obtain rfl : i = l.length := by omega
      simp only [List.take_length] at HC
      have hi2 : ¬ ((l.length : Int) < l.length) := by omega
      go_wp2_with fail
      have HE0 : Hid (errs l = 0) := errs_of HC.out
      have HCK := HC
      clear HC
      go_loopw [6, 7] (fun sv iv wq => ∃ (i : Nat) (acc : List Dl), iv = .int .i64 i ∧ i ≤ l.length ∧ Hid ((l.take i).foldl ins [] = acc) ∧ Hid (Own wq w.heap.size 69 7 encD sv acc) ∧ Hid (Same w wq) ∧ Hid (Srt acc) ∧ acc.length ≤ i ∧ Hid (BdT acc (i * 1099511627776))) (fun _ iv _ => l.length - (intOf iv).toNat)
      case atStart => exact ⟨0, [], rfl, by omega, rfl, Own.nil _ _ _ _ _, HS.out, List.Pairwise.nil, by simp, by intro y hy; cases hy⟩
      case round =>
        clear HS
        obtain ⟨i, acc, rfl, hi, HF, HO, HS, HSt, hal, HB⟩ := hrel
        rcases Nat.lt_or_ge i l.length with hil | hil
        · obtain ⟨x, hx⟩ : ∃ x, l[i]? = some x := ⟨_, List.getElem?_eq_getElem hil⟩
          obtain ⟨bb, oo, hA, hab, hcell⟩ := at7 (Rd.same HR.out HS.out) (fun _ => rfl) (by decide) i x hx
          subst hA
          have k0 : wr.cell? ⟨bb, oo + i * 7, none⟩ = some (.int .i64 x.l) := hcell 0 _ rfl
          have k1 : wr.cell? ⟨bb, oo + i * 7 + 1, none⟩ = some (.int .u32 x.t.e) := hcell 1 _ rfl
          have k2 : wr.cell? ⟨bb, oo + i * 7 + 2, none⟩ = some (.int .i64 x.t.d) := hcell 2 _ rfl
          have k3 : wr.cell? ⟨bb, oo + i * 7 + 3, none⟩ = some (.int .u32 x.t.a) := hcell 3 _ rfl
          have k4 : wr.cell? ⟨bb, oo + i * 7 + 4, none⟩ = some (.int .u32 x.t.b) := hcell 4 _ rfl
          have k5 : wr.cell? ⟨bb, oo + i * 7 + 5, none⟩ = some (.int .u32 x.t.c) := hcell 5 _ rfl
          have k6 : wr.cell? ⟨bb, oo + i * 7 + 6, none⟩ = some (.int .i64 x.n) := hcell 6 _ rfl
          clear hcell
          have hi2 : (i : Int) < l.length := by omega
          have HBn : Hid (BdT (ins acc x) (((i + 1 : Nat) : Int) * 1099511627776)) := by
            have h1 := (check_zero (HCK.out x (List.mem_of_getElem? hx))).2.2.2
            unfold okN at h1
            have h2 := BdT.ins HB.out x (by omega) (C := 1099511627776) (by omega) h1
            have e : ((i + 1 : Nat) : Int) * 1099511627776 = i * 1099511627776 + 1099511627776 := by omega
            unfold Hid
            rw [e]
            exact h2
          have HFn : Hid ((l.take (i + 1)).foldl ins [] = ins acc x) := foldl_snoc hx HF.out
          obtain ⟨A6, c6, rfl, hc6⟩ := (HO.out.rd).len
          obtain ⟨wo, hwo⟩ : ∃ wo, wo = wr := ⟨_, rfl⟩
          subst hwo
          go_wp2_with fail
          go_loopw [8] (fun jv wq => ∃ j : Nat, jv = .int .i64 j ∧ j ≤ acc.length ∧ Hid (∀ k y, j ≤ k → acc[k]? = some y → 0 < y.cmp x) ∧ Hid (Same wo wq)) (fun jv _ => (intOf jv).toNat)
          case atStart => exact ⟨acc.length, rfl, Nat.le_refl _, (fun k y hk hy => by rw [List.getElem?_eq_none hk] at hy; cases hy), Same.refl _⟩
          case round =>
            obtain ⟨j, rfl, hj, HJ, HSq⟩ := hrel
            rcases Nat.eq_zero_or_pos j with hj0 | hj0
            · have HIns : Hid (ins acc x = acc.take j ++ x :: acc.drop j) := ins_mid HJ.out (by subst hj0; intro y hy; cases hy)
              have hJ : j ≤ acc.length := hj
              have hz : decide ((j : Int) > 0) = false := by subst hj0; rfl
              have hz2 : ¬ (0 < (j : Int)) := by omega
              have hz3 : decide (0 < j) = false := by subst hj0; rfl
              have hz4 : decide (0 < (j : Int)) = false := by subst hj0; rfl
              clear hj0
              go_wp2_with fail
              go_quiet (fail)
              go_wp2_with fail
              revert nq
              intro n1
              go_quiet (fail)
              obtain ⟨W3, hW3⟩ : ∃ W3, ((wr.drewN n1).drewN nq) = W3 := ⟨_, rfl⟩
              have HS3 : Hid (Same wo W3) := by unfold Hid; rw [← hW3]; exact (HSq.out.drewN _).drewN _
              rw [hW3]
              clear hW3
              have HO3 : Hid (Own W3 w.heap.size 69 7 encD (.slice (A6) acc.length c6) acc) := HO.out.same HS3.out
              obtain ⟨b1, o1, hA1, hab1, hcx⟩ := at7 (Rd.same HR.out (HS.out.trans HS3.out)) (fun _ => rfl) (by decide) i x hx
              cases hA1
              have n0 : W3.cell? ⟨bb, oo + i * 7, none⟩ = some (.int .i64 x.l) := hcx 0 _ rfl
              have n1 : W3.cell? ⟨bb, oo + i * 7 + 1, none⟩ = some (.int .u32 x.t.e) := hcx 1 _ rfl
              have n2 : W3.cell? ⟨bb, oo + i * 7 + 2, none⟩ = some (.int .i64 x.t.d) := hcx 2 _ rfl
              have n3 : W3.cell? ⟨bb, oo + i * 7 + 3, none⟩ = some (.int .u32 x.t.a) := hcx 3 _ rfl
              have n4 : W3.cell? ⟨bb, oo + i * 7 + 4, none⟩ = some (.int .u32 x.t.b) := hcx 4 _ rfl
              have n5 : W3.cell? ⟨bb, oo + i * 7 + 5, none⟩ = some (.int .u32 x.t.c) := hcx 5 _ rfl
              have n6 : W3.cell? ⟨bb, oo + i * 7 + 6, none⟩ = some (.int .i64 x.n) := hcx 6 _ rfl
              clear hcx
              have hl3 : w.heap.size ≤ W3.heap.size := (HS.out.trans HS3.out).size
              obtain ⟨m, hm, hma, hmb⟩ : ∃ m, Hid (m = acc.length + 1) ∧ m ≤ acc.length + 1 ∧ acc.length + 1 ≤ m := ⟨_, rfl, Nat.le_refl _, Nat.le_refl _⟩
              have hm2 : IntKind.i64.wrap ((m : Int) - 1) = (acc.length : Int) := by rw [IntWalk.i64_in _ (by omega)]; omega
              have hm3 : (m : Int) - 1 = (acc.length : Int) := by omega
              go_wp2_with (at_builtin; refine app1s W3 w.heap.size rfl (.tmp 108) (.tmp 113) _ 69 _ 7 48 rfl Try.underlying22 infoD rfl (by decide) (by decide) encD (fun _ => rfl) (fun x u hu => by simp [encD] at hu; rcases hu with rfl | rfl | rfl | rfl | rfl | rfl | rfl <;> rfl) (.slice (A6) acc.length c6) acc x m rfl rfl HO3.out hl3 (by omega) hm.out rfl ?_; intro g1 c1 w1 hown1 hg1 hgb hglt; have HO1 := Lib.hid hown1; clear hown1; have HG1 := Lib.hid hg1; clear hg1)
              have HSW1 : Hid (Same w w1) := Below.grown (HS.out.trans HS3.out) HG1.out (HS.out.trans HS3.out).size (fun j hj => (Own.block HO3.out hj).1)
              clear n0 n1 n2 n3 n4 n5 n6
              go_loopw [9] (fun kv wq => ∃ (k : Nat) (z : Dl), kv = .int .i64 k ∧ j ≤ k ∧ k ≤ acc.length ∧ Hid (Own wq w.heap.size 69 7 encD (.slice (some ⟨g1, 0, none⟩) m c1) (acc.take k ++ z :: acc.drop k)) ∧ Hid (Same w wq)) (fun kv _ => (intOf kv).toNat)
              case atStart => exact ⟨acc.length, x, by first | rfl | (rw [hm3]), hJ, Nat.le_refl _, by unfold Hid; rw [List.take_length, List.drop_length]; exact HO1.out, HSW1.out⟩
              case round =>
                obtain ⟨k, z, rfl, hjk, hk, HOk, HSk⟩ := hrel
                have f := fun i => Own.frozen HOk.out (by rw [hm.out]; exact mid_len acc k z hk) i
                rcases Nat.lt_or_ge j k with hlt | hge
                · obtain ⟨k, rfl⟩ : ∃ k', k = k' + 1 := ⟨k - 1, by omega⟩
                  obtain ⟨y2, hy2⟩ : ∃ y2, acc[k]? = some y2 := ⟨_, List.getElem?_eq_getElem (by omega)⟩
                  have hmm : m = (acc.take (k + 1) ++ z :: acc.drop (k + 1)).length := by rw [hm.out]; exact mid_len acc (k + 1) z hk
                  have p0 : wr.cell? ⟨g1, k * 7, none⟩ = some (.int .i64 y2.l) := Own.cellN HOk.out hmm (fun _ => rfl) k y2 (mid_at acc k z y2 hy2) 0 _ rfl
                  have p1 : wr.cell? ⟨g1, k * 7 + 1, none⟩ = some (.int .u32 y2.t.e) := Own.cellN HOk.out hmm (fun _ => rfl) k y2 (mid_at acc k z y2 hy2) 1 _ rfl
                  have p2 : wr.cell? ⟨g1, k * 7 + 2, none⟩ = some (.int .i64 y2.t.d) := Own.cellN HOk.out hmm (fun _ => rfl) k y2 (mid_at acc k z y2 hy2) 2 _ rfl
                  have p3 : wr.cell? ⟨g1, k * 7 + 3, none⟩ = some (.int .u32 y2.t.a) := Own.cellN HOk.out hmm (fun _ => rfl) k y2 (mid_at acc k z y2 hy2) 3 _ rfl
                  have p4 : wr.cell? ⟨g1, k * 7 + 4, none⟩ = some (.int .u32 y2.t.b) := Own.cellN HOk.out hmm (fun _ => rfl) k y2 (mid_at acc k z y2 hy2) 4 _ rfl
                  have p5 : wr.cell? ⟨g1, k * 7 + 5, none⟩ = some (.int .u32 y2.t.c) := Own.cellN HOk.out hmm (fun _ => rfl) k y2 (mid_at acc k z y2 hy2) 5 _ rfl
                  have p6 : wr.cell? ⟨g1, k * 7 + 6, none⟩ = some (.int .i64 y2.n) := Own.cellN HOk.out hmm (fun _ => rfl) k y2 (mid_at acc k z y2 hy2) 6 _ rfl
                  have r0 : wr.cell? ⟨g1, (k + 1) * 7, none⟩ = some (.int .i64 z.l) := Own.cellN HOk.out hmm (fun _ => rfl) (k + 1) z (mid_at' acc (k + 1) z hk) 0 _ rfl
                  have r1 : wr.cell? ⟨g1, (k + 1) * 7 + 1, none⟩ = some (.int .u32 z.t.e) := Own.cellN HOk.out hmm (fun _ => rfl) (k + 1) z (mid_at' acc (k + 1) z hk) 1 _ rfl
                  have r2 : wr.cell? ⟨g1, (k + 1) * 7 + 2, none⟩ = some (.int .i64 z.t.d) := Own.cellN HOk.out hmm (fun _ => rfl) (k + 1) z (mid_at' acc (k + 1) z hk) 2 _ rfl
                  have r3 : wr.cell? ⟨g1, (k + 1) * 7 + 3, none⟩ = some (.int .u32 z.t.a) := Own.cellN HOk.out hmm (fun _ => rfl) (k + 1) z (mid_at' acc (k + 1) z hk) 3 _ rfl
                  have r4 : wr.cell? ⟨g1, (k + 1) * 7 + 4, none⟩ = some (.int .u32 z.t.b) := Own.cellN HOk.out hmm (fun _ => rfl) (k + 1) z (mid_at' acc (k + 1) z hk) 4 _ rfl
                  have r5 : wr.cell? ⟨g1, (k + 1) * 7 + 5, none⟩ = some (.int .u32 z.t.c) := Own.cellN HOk.out hmm (fun _ => rfl) (k + 1) z (mid_at' acc (k + 1) z hk) 5 _ rfl
                  have r6 : wr.cell? ⟨g1, (k + 1) * 7 + 6, none⟩ = some (.int .i64 z.n) := Own.cellN HOk.out hmm (fun _ => rfl) (k + 1) z (mid_at' acc (k + 1) z hk) 6 _ rfl
                  have f0 : wr.frozen? ⟨g1, (k + 1) * 7, none⟩ = false := f _
                  have f1 : wr.frozen? ⟨g1, (k + 1) * 7 + 1, none⟩ = false := f _
                  have f2 : wr.frozen? ⟨g1, (k + 1) * 7 + 2, none⟩ = false := f _
                  have f3 : wr.frozen? ⟨g1, (k + 1) * 7 + 3, none⟩ = false := f _
                  have f4 : wr.frozen? ⟨g1, (k + 1) * 7 + 4, none⟩ = false := f _
                  have f5 : wr.frozen? ⟨g1, (k + 1) * 7 + 5, none⟩ = false := f _
                  have f6 : wr.frozen? ⟨g1, (k + 1) * 7 + 6, none⟩ = false := f _
                  clear f
                  have j1 : (((k + 1 : Nat) : Int) > (j : Nat)) := by omega
                  have j2 : IntKind.i64.wrap (((k + 1 : Nat) : Int) - 1) = (k : Int) := by rw [IntWalk.i64_in _ (by omega)]; omega
                  have j3 : ((k + 1 : Nat) : Int) < m := by omega
                  have j4 : (k : Int) < m := by omega
                  have HO5 := Lib.hid (Own.set7' HOk.out hmm (k + 1) (by omega) y2)
                  rw [shift_step acc k z y2 hy2] at HO5
                  clear hmm
                  go_wp2_with fail
                  go_roundw
                  case rel => exact ⟨k, y2, rfl, by omega, by omega, HO5.out, ((((((HSk.out.set hgb _).set hgb _).set hgb _).set hgb _).set hgb _).set hgb _).set hgb _⟩
                  case measure => simp [intOf]
                · obtain rfl : j = k := by omega
                  have hmm : m = (acc.take j ++ z :: acc.drop j).length := by rw [hm.out]; exact mid_len acc _ z hk
                  have r0 : wr.cell? ⟨g1, j * 7, none⟩ = some (.int .i64 z.l) := Own.cellN HOk.out hmm (fun _ => rfl) j z (mid_at' acc _ z hk) 0 _ rfl
                  have r1 : wr.cell? ⟨g1, j * 7 + 1, none⟩ = some (.int .u32 z.t.e) := Own.cellN HOk.out hmm (fun _ => rfl) j z (mid_at' acc _ z hk) 1 _ rfl
                  have r2 : wr.cell? ⟨g1, j * 7 + 2, none⟩ = some (.int .i64 z.t.d) := Own.cellN HOk.out hmm (fun _ => rfl) j z (mid_at' acc _ z hk) 2 _ rfl
                  have r3 : wr.cell? ⟨g1, j * 7 + 3, none⟩ = some (.int .u32 z.t.a) := Own.cellN HOk.out hmm (fun _ => rfl) j z (mid_at' acc _ z hk) 3 _ rfl
                  have r4 : wr.cell? ⟨g1, j * 7 + 4, none⟩ = some (.int .u32 z.t.b) := Own.cellN HOk.out hmm (fun _ => rfl) j z (mid_at' acc _ z hk) 4 _ rfl
                  have r5 : wr.cell? ⟨g1, j * 7 + 5, none⟩ = some (.int .u32 z.t.c) := Own.cellN HOk.out hmm (fun _ => rfl) j z (mid_at' acc _ z hk) 5 _ rfl
                  have r6 : wr.cell? ⟨g1, j * 7 + 6, none⟩ = some (.int .i64 z.n) := Own.cellN HOk.out hmm (fun _ => rfl) j z (mid_at' acc _ z hk) 6 _ rfl
                  have f0 : wr.frozen? ⟨g1, j * 7, none⟩ = false := f _
                  have f1 : wr.frozen? ⟨g1, j * 7 + 1, none⟩ = false := f _
                  have f2 : wr.frozen? ⟨g1, j * 7 + 2, none⟩ = false := f _
                  have f3 : wr.frozen? ⟨g1, j * 7 + 3, none⟩ = false := f _
                  have f4 : wr.frozen? ⟨g1, j * 7 + 4, none⟩ = false := f _
                  have f5 : wr.frozen? ⟨g1, j * 7 + 5, none⟩ = false := f _
                  have f6 : wr.frozen? ⟨g1, j * 7 + 6, none⟩ = false := f _
                  clear f
                  have j1 : ¬ (((j : Nat) : Int) > (j : Nat)) := by omega
                  have j3 : ((j : Nat) : Int) < m := by omega
                  obtain ⟨b1, o1, hA1, hab1, hcx⟩ := at7 (Rd.same HR.out HSk.out) (fun _ => rfl) (by decide) i x hx
                  cases hA1
                  have n0 : wr.cell? ⟨bb, oo + i * 7, none⟩ = some (.int .i64 x.l) := hcx 0 _ rfl
                  have n1 : wr.cell? ⟨bb, oo + i * 7 + 1, none⟩ = some (.int .u32 x.t.e) := hcx 1 _ rfl
                  have n2 : wr.cell? ⟨bb, oo + i * 7 + 2, none⟩ = some (.int .i64 x.t.d) := hcx 2 _ rfl
                  have n3 : wr.cell? ⟨bb, oo + i * 7 + 3, none⟩ = some (.int .u32 x.t.a) := hcx 3 _ rfl
                  have n4 : wr.cell? ⟨bb, oo + i * 7 + 4, none⟩ = some (.int .u32 x.t.b) := hcx 4 _ rfl
                  have n5 : wr.cell? ⟨bb, oo + i * 7 + 5, none⟩ = some (.int .u32 x.t.c) := hcx 5 _ rfl
                  have n6 : wr.cell? ⟨bb, oo + i * 7 + 6, none⟩ = some (.int .i64 x.n) := hcx 6 _ rfl
                  clear hcx
                  have HO5 := Lib.hid (Own.set7' HOk.out hmm j (by omega) x)
                  rw [mid_set acc j z x hk, ← HIns.out] at HO5
                  clear hmm
                  go_wp2_with fail
                  go_roundw
                  case rel => exact ⟨i + 1, ins acc x, by go_num, by omega, HFn.out, HO5.out, ((((((HSk.out.set hgb _).set hgb _).set hgb _).set hgb _).set hgb _).set hgb _).set hgb _, ins_srt acc x HSt.out, by have := ins_len acc x; omega, HBn.out⟩
                  case measure => simp [intOf]; omega
            · obtain ⟨j, rfl⟩ : ∃ j', j = j' + 1 := ⟨j - 1, by omega⟩
              obtain ⟨y, hy⟩ : ∃ y, acc[j]? = some y := ⟨_, List.getElem?_eq_getElem (by omega)⟩
              obtain ⟨g, c6', hform, hBg, hglt⟩ := own_form HO.out (by omega)
              cases hform
              have HOq : Hid (Own wr w.heap.size 69 7 encD (.slice (some ⟨g, 0, none⟩) acc.length c6) acc) := HO.out.same HSq.out
              obtain ⟨b1, o1, hA1, hab1, hcx⟩ := at7 (Rd.same HR.out (HS.out.trans HSq.out)) (fun _ => rfl) (by decide) i x hx
              cases hA1
              have n0 : wr.cell? ⟨bb, oo + i * 7, none⟩ = some (.int .i64 x.l) := hcx 0 _ rfl
              have n1 : wr.cell? ⟨bb, oo + i * 7 + 1, none⟩ = some (.int .u32 x.t.e) := hcx 1 _ rfl
              have n2 : wr.cell? ⟨bb, oo + i * 7 + 2, none⟩ = some (.int .i64 x.t.d) := hcx 2 _ rfl
              have n3 : wr.cell? ⟨bb, oo + i * 7 + 3, none⟩ = some (.int .u32 x.t.a) := hcx 3 _ rfl
              have n4 : wr.cell? ⟨bb, oo + i * 7 + 4, none⟩ = some (.int .u32 x.t.b) := hcx 4 _ rfl
              have n5 : wr.cell? ⟨bb, oo + i * 7 + 5, none⟩ = some (.int .u32 x.t.c) := hcx 5 _ rfl
              have n6 : wr.cell? ⟨bb, oo + i * 7 + 6, none⟩ = some (.int .i64 x.n) := hcx 6 _ rfl
              clear hcx
              have m0 : wr.cell? ⟨g, j * 7, none⟩ = some (.int .i64 y.l) := Own.cellN HOq.out rfl (fun _ => rfl) j y hy 0 _ rfl
              have m1 : wr.cell? ⟨g, j * 7 + 1, none⟩ = some (.int .u32 y.t.e) := Own.cellN HOq.out rfl (fun _ => rfl) j y hy 1 _ rfl
              have m2 : wr.cell? ⟨g, j * 7 + 2, none⟩ = some (.int .i64 y.t.d) := Own.cellN HOq.out rfl (fun _ => rfl) j y hy 2 _ rfl
              have m3 : wr.cell? ⟨g, j * 7 + 3, none⟩ = some (.int .u32 y.t.a) := Own.cellN HOq.out rfl (fun _ => rfl) j y hy 3 _ rfl
              have m4 : wr.cell? ⟨g, j * 7 + 4, none⟩ = some (.int .u32 y.t.b) := Own.cellN HOq.out rfl (fun _ => rfl) j y hy 4 _ rfl
              have m5 : wr.cell? ⟨g, j * 7 + 5, none⟩ = some (.int .u32 y.t.c) := Own.cellN HOq.out rfl (fun _ => rfl) j y hy 5 _ rfl
              have m6 : wr.cell? ⟨g, j * 7 + 6, none⟩ = some (.int .i64 y.n) := Own.cellN HOq.out rfl (fun _ => rfl) j y hy 6 _ rfl
              clear HOq
              have HOr := Lib.hid (fun W => dorder y x W)
              have j1 : ((j + 1 : Nat) : Int) > 0 := by omega
              have j2 : IntKind.i64.wrap (((j + 1 : Nat) : Int) - 1) = (j : Int) := by rw [IntWalk.i64_in _ (by omega)]; omega
              have j3 : (j : Int) < acc.length := by omega
              have j4 : IntKind.i64.wrap (j : Int) = (j : Int) := IntWalk.i64_in _ (by omega)
              obtain ⟨q, hq⟩ : ∃ q, y.cmp x = q := ⟨_, rfl⟩
              rw [hq] at HOr
              have HQ := Lib.hid hq
              clear hq
              go_wp2_with fail
              refine wp_region_still_tail 12 (by kernel_rfl) (by kernel_rfl) ?_
              change wpStill _ _ wr.drew _ _ _
              obtain ⟨W1, hW1⟩ : ∃ W1, wr.drew = W1 := ⟨_, rfl⟩
              have n0' : W1.cell? ⟨bb, oo + i * 7, none⟩ = some (.int .i64 x.l) := by rw [← hW1]; exact n0
              have m0' : W1.cell? ⟨g, j * 7, none⟩ = some (.int .i64 y.l) := by rw [← hW1]; exact m0
              have n1' : W1.cell? ⟨bb, oo + i * 7 + 1, none⟩ = some (.int .u32 x.t.e) := by rw [← hW1]; exact n1
              have m1' : W1.cell? ⟨g, j * 7 + 1, none⟩ = some (.int .u32 y.t.e) := by rw [← hW1]; exact m1
              have n2' : W1.cell? ⟨bb, oo + i * 7 + 2, none⟩ = some (.int .i64 x.t.d) := by rw [← hW1]; exact n2
              have m2' : W1.cell? ⟨g, j * 7 + 2, none⟩ = some (.int .i64 y.t.d) := by rw [← hW1]; exact m2
              have n3' : W1.cell? ⟨bb, oo + i * 7 + 3, none⟩ = some (.int .u32 x.t.a) := by rw [← hW1]; exact n3
              have m3' : W1.cell? ⟨g, j * 7 + 3, none⟩ = some (.int .u32 y.t.a) := by rw [← hW1]; exact m3
              have n4' : W1.cell? ⟨bb, oo + i * 7 + 4, none⟩ = some (.int .u32 x.t.b) := by rw [← hW1]; exact n4
              have m4' : W1.cell? ⟨g, j * 7 + 4, none⟩ = some (.int .u32 y.t.b) := by rw [← hW1]; exact m4
              have n5' : W1.cell? ⟨bb, oo + i * 7 + 5, none⟩ = some (.int .u32 x.t.c) := by rw [← hW1]; exact n5
              have m5' : W1.cell? ⟨g, j * 7 + 5, none⟩ = some (.int .u32 y.t.c) := by rw [← hW1]; exact m5
              have n6' : W1.cell? ⟨bb, oo + i * 7 + 6, none⟩ = some (.int .i64 x.n) := by rw [← hW1]; exact n6
              have m6' : W1.cell? ⟨g, j * 7 + 6, none⟩ = some (.int .i64 y.n) := by rw [← hW1]; exact m6
              have HSW : Hid (Same wo W1) := by unfold Hid; rw [← hW1]; exact HSq.out.drewN 1
              clear n0 n1 n2 n3 n4 n5 n6 m0 m1 m2 m3 m4 m5 m6
              rw [hW1]
              simp only [List.take_succ_cons, List.take_zero, List.drop_succ_cons, List.drop_zero]
              iterate 12 still_step
              refine wpStill_nil ?_
              go_wp2_with fail
              refine (HOr.out _).mono ?_
              rintro r W2 ⟨rfl, hs⟩
              have HS2 := Lib.hid (HSW.out.trans hs)
              clear hs hW1 n0' n1' n2' n3' n4' n5' n6' m0' m1' m2' m3' m4' m5' m6'
              by_cases hq0 : 0 < q
              · go_wp2_with fail
                go_roundw
                case rel =>
                  refine ⟨j, by go_num, by omega, ?_, HS2.out⟩
                  intro k z hk hz
                  rcases Nat.lt_or_ge j k with h | h
                  · exact HJ.out k z (by omega) hz
                  · obtain rfl : k = j := by omega
                    rw [hy] at hz
                    cases hz
                    rw [HQ.out]; exact hq0
                case measure => simp [intOf]
              · have hq1 : q ≤ 0 := by omega
                clear hq0
                go_wp2_with fail
                have HOq : Hid (Own W2 w.heap.size 69 7 encD (.slice (some ⟨g, 0, none⟩) acc.length c6) acc) := HO.out.same HS2.out
                obtain ⟨b1, o1, hA1, hab1, hcx⟩ := at7 (Rd.same HR.out (HS.out.trans HS2.out)) (fun _ => rfl) (by decide) i x hx
                cases hA1
                have n0 : W2.cell? ⟨bb, oo + i * 7, none⟩ = some (.int .i64 x.l) := hcx 0 _ rfl
                have n1 : W2.cell? ⟨bb, oo + i * 7 + 1, none⟩ = some (.int .u32 x.t.e) := hcx 1 _ rfl
                have n2 : W2.cell? ⟨bb, oo + i * 7 + 2, none⟩ = some (.int .i64 x.t.d) := hcx 2 _ rfl
                have n3 : W2.cell? ⟨bb, oo + i * 7 + 3, none⟩ = some (.int .u32 x.t.a) := hcx 3 _ rfl
                have n4 : W2.cell? ⟨bb, oo + i * 7 + 4, none⟩ = some (.int .u32 x.t.b) := hcx 4 _ rfl
                have n5 : W2.cell? ⟨bb, oo + i * 7 + 5, none⟩ = some (.int .u32 x.t.c) := hcx 5 _ rfl
                have n6 : W2.cell? ⟨bb, oo + i * 7 + 6, none⟩ = some (.int .i64 x.n) := hcx 6 _ rfl
                clear hcx
                have m0 : W2.cell? ⟨g, j * 7, none⟩ = some (.int .i64 y.l) := Own.cellN HOq.out rfl (fun _ => rfl) j y hy 0 _ rfl
                have m1 : W2.cell? ⟨g, j * 7 + 1, none⟩ = some (.int .u32 y.t.e) := Own.cellN HOq.out rfl (fun _ => rfl) j y hy 1 _ rfl
                have m2 : W2.cell? ⟨g, j * 7 + 2, none⟩ = some (.int .i64 y.t.d) := Own.cellN HOq.out rfl (fun _ => rfl) j y hy 2 _ rfl
                have m3 : W2.cell? ⟨g, j * 7 + 3, none⟩ = some (.int .u32 y.t.a) := Own.cellN HOq.out rfl (fun _ => rfl) j y hy 3 _ rfl
                have m4 : W2.cell? ⟨g, j * 7 + 4, none⟩ = some (.int .u32 y.t.b) := Own.cellN HOq.out rfl (fun _ => rfl) j y hy 4 _ rfl
                have m5 : W2.cell? ⟨g, j * 7 + 5, none⟩ = some (.int .u32 y.t.c) := Own.cellN HOq.out rfl (fun _ => rfl) j y hy 5 _ rfl
                have m6 : W2.cell? ⟨g, j * 7 + 6, none⟩ = some (.int .i64 y.n) := Own.cellN HOq.out rfl (fun _ => rfl) j y hy 6 _ rfl
                clear HOq
                refine wp_region_still_tail 12 (by kernel_rfl) (by kernel_rfl) ?_
                change wpStill _ _ W2.drew _ _ _
                obtain ⟨W3, hW1⟩ : ∃ W1, W2.drew = W1 := ⟨_, rfl⟩
                have n0' : W3.cell? ⟨bb, oo + i * 7, none⟩ = some (.int .i64 x.l) := by rw [← hW1]; exact n0
                have m0' : W3.cell? ⟨g, j * 7, none⟩ = some (.int .i64 y.l) := by rw [← hW1]; exact m0
                have n1' : W3.cell? ⟨bb, oo + i * 7 + 1, none⟩ = some (.int .u32 x.t.e) := by rw [← hW1]; exact n1
                have m1' : W3.cell? ⟨g, j * 7 + 1, none⟩ = some (.int .u32 y.t.e) := by rw [← hW1]; exact m1
                have n2' : W3.cell? ⟨bb, oo + i * 7 + 2, none⟩ = some (.int .i64 x.t.d) := by rw [← hW1]; exact n2
                have m2' : W3.cell? ⟨g, j * 7 + 2, none⟩ = some (.int .i64 y.t.d) := by rw [← hW1]; exact m2
                have n3' : W3.cell? ⟨bb, oo + i * 7 + 3, none⟩ = some (.int .u32 x.t.a) := by rw [← hW1]; exact n3
                have m3' : W3.cell? ⟨g, j * 7 + 3, none⟩ = some (.int .u32 y.t.a) := by rw [← hW1]; exact m3
                have n4' : W3.cell? ⟨bb, oo + i * 7 + 4, none⟩ = some (.int .u32 x.t.b) := by rw [← hW1]; exact n4
                have m4' : W3.cell? ⟨g, j * 7 + 4, none⟩ = some (.int .u32 y.t.b) := by rw [← hW1]; exact m4
                have n5' : W3.cell? ⟨bb, oo + i * 7 + 5, none⟩ = some (.int .u32 x.t.c) := by rw [← hW1]; exact n5
                have m5' : W3.cell? ⟨g, j * 7 + 5, none⟩ = some (.int .u32 y.t.c) := by rw [← hW1]; exact m5
                have n6' : W3.cell? ⟨bb, oo + i * 7 + 6, none⟩ = some (.int .i64 x.n) := by rw [← hW1]; exact n6
                have m6' : W3.cell? ⟨g, j * 7 + 6, none⟩ = some (.int .i64 y.n) := by rw [← hW1]; exact m6
                have HSW : Hid (Same wo W3) := by unfold Hid; rw [← hW1]; exact HS2.out.drewN 1
                clear n0 n1 n2 n3 n4 n5 n6 m0 m1 m2 m3 m4 m5 m6
                rw [hW1]
                simp only [List.take_succ_cons, List.take_zero, List.drop_succ_cons, List.drop_zero]
                iterate 12 still_step
                refine wpStill_nil ?_
                go_wp2_with fail
                refine (HOr.out _).mono ?_
                rintro r W4 ⟨rfl, hs⟩
                have HS4 := Lib.hid (HSW.out.trans hs)
                clear hs hW1 n0' n1' n2' n3' n4' n5' n6' m0' m1' m2' m3' m4' m5' m6'
                by_cases hqz : q = 0
                · have HIns : Hid (ins acc x = acc.set j { y with n := y.n + x.n }) := ins_mid_eq HSt.out hy (HQ.out.trans hqz)
                  have hz1 : (q == 0) = true := by simp [hqz]
                  clear hqz hq1
                  have HO4 : Hid (Own W4 w.heap.size 69 7 encD (.slice (some ⟨g, 0, none⟩) acc.length c6) acc) := HO.out.same HS4.out
                  obtain ⟨b1, o1, hA1, hab1, hcx⟩ := at7 (Rd.same HR.out (HS.out.trans HS4.out)) (fun _ => rfl) (by decide) i x hx
                  cases hA1
                  have n6 : W4.cell? ⟨bb, oo + i * 7 + 6, none⟩ = some (.int .i64 x.n) := hcx 6 _ rfl
                  clear hcx
                  have m6 : W4.cell? ⟨g, j * 7 + 6, none⟩ = some (.int .i64 y.n) := Own.cellN HO4.out rfl (fun _ => rfl) j y hy 6 _ rfl
                  have f6 : W4.frozen? ⟨g, j * 7 + 6, none⟩ = false := Own.frozen HO4.out rfl _
                  have hw : IntKind.i64.wrap (y.n + x.n) = y.n + x.n := by
                    have h1 := HB.out y (List.mem_of_getElem? hy)
                    have h2 := (check_zero (HCK.out x (List.mem_of_getElem? hx))).2.2.2
                    unfold okN at h2
                    exact IntWalk.i64_in _ (by omega)
                  have HO5 := Lib.hid ((Own.setn HO4.out rfl j y hy (y.n + x.n)).drewN 1)
                  rw [← HIns.out] at HO5
                  go_wp2_with fail
                  refine wp_region_still_tail 17 (by kernel_rfl) (by kernel_rfl) ?_
                  change wpStill _ _ W4.drew _ _ _
                  simp only [List.take_succ_cons, List.take_zero, List.drop_succ_cons, List.drop_zero]
                  iterate 17 still_step
                  refine wpStill_nil ?_
                  go_wp2_with fail
                  go_roundw
                  case rel => exact ⟨i + 1, ins acc x, by go_num, by omega, HFn.out, HO5.out, ((HS.out.trans HS4.out).set hBg _).drewN 1, ins_srt acc x HSt.out, by have := ins_len acc x; omega, HBn.out⟩
                  case measure => simp [intOf]; omega
                · have hlow : y.cmp x < 0 := by have := HQ.out; omega
                  have HIns : Hid (ins acc x = acc.take (j + 1) ++ x :: acc.drop (j + 1)) := ins_mid HJ.out (below_at HSt.out hy hlow)
                  have hz1 : (q == 0) = false := by simp [hqz]
                  clear hqz hq1 hlow
                  have hJ : j + 1 ≤ acc.length := hj
                  have HO3 : Hid (Own W4 w.heap.size 69 7 encD (.slice (some ⟨g, 0, none⟩) acc.length c6) acc) := HO.out.same HS4.out
                  obtain ⟨b1, o1, hA1, hab1, hcx⟩ := at7 (Rd.same HR.out (HS.out.trans HS4.out)) (fun _ => rfl) (by decide) i x hx
                  cases hA1
                  have n0 : W4.cell? ⟨bb, oo + i * 7, none⟩ = some (.int .i64 x.l) := hcx 0 _ rfl
                  have n1 : W4.cell? ⟨bb, oo + i * 7 + 1, none⟩ = some (.int .u32 x.t.e) := hcx 1 _ rfl
                  have n2 : W4.cell? ⟨bb, oo + i * 7 + 2, none⟩ = some (.int .i64 x.t.d) := hcx 2 _ rfl
                  have n3 : W4.cell? ⟨bb, oo + i * 7 + 3, none⟩ = some (.int .u32 x.t.a) := hcx 3 _ rfl
                  have n4 : W4.cell? ⟨bb, oo + i * 7 + 4, none⟩ = some (.int .u32 x.t.b) := hcx 4 _ rfl
                  have n5 : W4.cell? ⟨bb, oo + i * 7 + 5, none⟩ = some (.int .u32 x.t.c) := hcx 5 _ rfl
                  have n6 : W4.cell? ⟨bb, oo + i * 7 + 6, none⟩ = some (.int .i64 x.n) := hcx 6 _ rfl
                  clear hcx
                  have hl3 : w.heap.size ≤ W4.heap.size := (HS.out.trans HS4.out).size
                  obtain ⟨m, hm, hma, hmb⟩ : ∃ m, Hid (m = acc.length + 1) ∧ m ≤ acc.length + 1 ∧ acc.length + 1 ≤ m := ⟨_, rfl, Nat.le_refl _, Nat.le_refl _⟩
                  have hm2 : IntKind.i64.wrap ((m : Int) - 1) = (acc.length : Int) := by rw [IntWalk.i64_in _ (by omega)]; omega
                  have hm3 : (m : Int) - 1 = (acc.length : Int) := by omega
                  go_wp2_with (at_builtin; refine app1s W4 w.heap.size rfl (.tmp 108) (.tmp 113) _ 69 _ 7 48 rfl Try.underlying22 infoD rfl (by decide) (by decide) encD (fun _ => rfl) (fun x u hu => by simp [encD] at hu; rcases hu with rfl | rfl | rfl | rfl | rfl | rfl | rfl <;> rfl) (.slice (some ⟨g, 0, none⟩) acc.length c6) acc x m rfl rfl HO3.out hl3 (by omega) hm.out rfl ?_; intro g1 c1 w1 hown1 hg1 hgb hglt; have HO1 := Lib.hid hown1; clear hown1; have HG1 := Lib.hid hg1; clear hg1)
                  have HSW1 : Hid (Same w w1) := Below.grown (HS.out.trans HS4.out) HG1.out (HS.out.trans HS4.out).size (fun j hj => (Own.block HO3.out hj).1)
                  clear n0 n1 n2 n3 n4 n5 n6
                  go_loopw [9] (fun kv wq => ∃ (k : Nat) (z : Dl), kv = .int .i64 k ∧ (j + 1) ≤ k ∧ k ≤ acc.length ∧ Hid (Own wq w.heap.size 69 7 encD (.slice (some ⟨g1, 0, none⟩) m c1) (acc.take k ++ z :: acc.drop k)) ∧ Hid (Same w wq)) (fun kv _ => (intOf kv).toNat)
                  case atStart => exact ⟨acc.length, x, by first | rfl | (rw [hm3]), hJ, Nat.le_refl _, by unfold Hid; rw [List.take_length, List.drop_length]; exact HO1.out, HSW1.out⟩
                  case round =>
                    obtain ⟨k, z, rfl, hjk, hk, HOk, HSk⟩ := hrel
                    have f := fun i => Own.frozen HOk.out (by rw [hm.out]; exact mid_len acc k z hk) i
                    rcases Nat.lt_or_ge (j + 1) k with hlt | hge
                    · obtain ⟨k, rfl⟩ : ∃ k', k = k' + 1 := ⟨k - 1, by omega⟩
                      obtain ⟨y2, hy2⟩ : ∃ y2, acc[k]? = some y2 := ⟨_, List.getElem?_eq_getElem (by omega)⟩
                      have hmm : m = (acc.take (k + 1) ++ z :: acc.drop (k + 1)).length := by rw [hm.out]; exact mid_len acc (k + 1) z hk
                      have p0 : wr.cell? ⟨g1, k * 7, none⟩ = some (.int .i64 y2.l) := Own.cellN HOk.out hmm (fun _ => rfl) k y2 (mid_at acc k z y2 hy2) 0 _ rfl
                      have p1 : wr.cell? ⟨g1, k * 7 + 1, none⟩ = some (.int .u32 y2.t.e) := Own.cellN HOk.out hmm (fun _ => rfl) k y2 (mid_at acc k z y2 hy2) 1 _ rfl
                      have p2 : wr.cell? ⟨g1, k * 7 + 2, none⟩ = some (.int .i64 y2.t.d) := Own.cellN HOk.out hmm (fun _ => rfl) k y2 (mid_at acc k z y2 hy2) 2 _ rfl
                      have p3 : wr.cell? ⟨g1, k * 7 + 3, none⟩ = some (.int .u32 y2.t.a) := Own.cellN HOk.out hmm (fun _ => rfl) k y2 (mid_at acc k z y2 hy2) 3 _ rfl
                      have p4 : wr.cell? ⟨g1, k * 7 + 4, none⟩ = some (.int .u32 y2.t.b) := Own.cellN HOk.out hmm (fun _ => rfl) k y2 (mid_at acc k z y2 hy2) 4 _ rfl
                      have p5 : wr.cell? ⟨g1, k * 7 + 5, none⟩ = some (.int .u32 y2.t.c) := Own.cellN HOk.out hmm (fun _ => rfl) k y2 (mid_at acc k z y2 hy2) 5 _ rfl
                      have p6 : wr.cell? ⟨g1, k * 7 + 6, none⟩ = some (.int .i64 y2.n) := Own.cellN HOk.out hmm (fun _ => rfl) k y2 (mid_at acc k z y2 hy2) 6 _ rfl
                      have r0 : wr.cell? ⟨g1, (k + 1) * 7, none⟩ = some (.int .i64 z.l) := Own.cellN HOk.out hmm (fun _ => rfl) (k + 1) z (mid_at' acc (k + 1) z hk) 0 _ rfl
                      have r1 : wr.cell? ⟨g1, (k + 1) * 7 + 1, none⟩ = some (.int .u32 z.t.e) := Own.cellN HOk.out hmm (fun _ => rfl) (k + 1) z (mid_at' acc (k + 1) z hk) 1 _ rfl
                      have r2 : wr.cell? ⟨g1, (k + 1) * 7 + 2, none⟩ = some (.int .i64 z.t.d) := Own.cellN HOk.out hmm (fun _ => rfl) (k + 1) z (mid_at' acc (k + 1) z hk) 2 _ rfl
                      have r3 : wr.cell? ⟨g1, (k + 1) * 7 + 3, none⟩ = some (.int .u32 z.t.a) := Own.cellN HOk.out hmm (fun _ => rfl) (k + 1) z (mid_at' acc (k + 1) z hk) 3 _ rfl
                      have r4 : wr.cell? ⟨g1, (k + 1) * 7 + 4, none⟩ = some (.int .u32 z.t.b) := Own.cellN HOk.out hmm (fun _ => rfl) (k + 1) z (mid_at' acc (k + 1) z hk) 4 _ rfl
                      have r5 : wr.cell? ⟨g1, (k + 1) * 7 + 5, none⟩ = some (.int .u32 z.t.c) := Own.cellN HOk.out hmm (fun _ => rfl) (k + 1) z (mid_at' acc (k + 1) z hk) 5 _ rfl
                      have r6 : wr.cell? ⟨g1, (k + 1) * 7 + 6, none⟩ = some (.int .i64 z.n) := Own.cellN HOk.out hmm (fun _ => rfl) (k + 1) z (mid_at' acc (k + 1) z hk) 6 _ rfl
                      have f0 : wr.frozen? ⟨g1, (k + 1) * 7, none⟩ = false := f _
                      have f1 : wr.frozen? ⟨g1, (k + 1) * 7 + 1, none⟩ = false := f _
                      have f2 : wr.frozen? ⟨g1, (k + 1) * 7 + 2, none⟩ = false := f _
                      have f3 : wr.frozen? ⟨g1, (k + 1) * 7 + 3, none⟩ = false := f _
                      have f4 : wr.frozen? ⟨g1, (k + 1) * 7 + 4, none⟩ = false := f _
                      have f5 : wr.frozen? ⟨g1, (k + 1) * 7 + 5, none⟩ = false := f _
                      have f6 : wr.frozen? ⟨g1, (k + 1) * 7 + 6, none⟩ = false := f _
                      clear f
                      have j1 : (((k + 1 : Nat) : Int) > ((j + 1) : Nat)) := by omega
                      have j2 : IntKind.i64.wrap (((k + 1 : Nat) : Int) - 1) = (k : Int) := by rw [IntWalk.i64_in _ (by omega)]; omega
                      have j3 : ((k + 1 : Nat) : Int) < m := by omega
                      have j4 : (k : Int) < m := by omega
                      have HO5 := Lib.hid (Own.set7' HOk.out hmm (k + 1) (by omega) y2)
                      rw [shift_step acc k z y2 hy2] at HO5
                      clear hmm
                      go_wp2_with fail
                      go_roundw
                      case rel => exact ⟨k, y2, rfl, by omega, by omega, HO5.out, ((((((HSk.out.set hgb _).set hgb _).set hgb _).set hgb _).set hgb _).set hgb _).set hgb _⟩
                      case measure => simp [intOf]
                    · obtain rfl : (j + 1) = k := by omega
                      have hmm : m = (acc.take (j + 1) ++ z :: acc.drop (j + 1)).length := by rw [hm.out]; exact mid_len acc _ z hk
                      have r0 : wr.cell? ⟨g1, (j + 1) * 7, none⟩ = some (.int .i64 z.l) := Own.cellN HOk.out hmm (fun _ => rfl) (j + 1) z (mid_at' acc _ z hk) 0 _ rfl
                      have r1 : wr.cell? ⟨g1, (j + 1) * 7 + 1, none⟩ = some (.int .u32 z.t.e) := Own.cellN HOk.out hmm (fun _ => rfl) (j + 1) z (mid_at' acc _ z hk) 1 _ rfl
                      have r2 : wr.cell? ⟨g1, (j + 1) * 7 + 2, none⟩ = some (.int .i64 z.t.d) := Own.cellN HOk.out hmm (fun _ => rfl) (j + 1) z (mid_at' acc _ z hk) 2 _ rfl
                      have r3 : wr.cell? ⟨g1, (j + 1) * 7 + 3, none⟩ = some (.int .u32 z.t.a) := Own.cellN HOk.out hmm (fun _ => rfl) (j + 1) z (mid_at' acc _ z hk) 3 _ rfl
                      have r4 : wr.cell? ⟨g1, (j + 1) * 7 + 4, none⟩ = some (.int .u32 z.t.b) := Own.cellN HOk.out hmm (fun _ => rfl) (j + 1) z (mid_at' acc _ z hk) 4 _ rfl
                      have r5 : wr.cell? ⟨g1, (j + 1) * 7 + 5, none⟩ = some (.int .u32 z.t.c) := Own.cellN HOk.out hmm (fun _ => rfl) (j + 1) z (mid_at' acc _ z hk) 5 _ rfl
                      have r6 : wr.cell? ⟨g1, (j + 1) * 7 + 6, none⟩ = some (.int .i64 z.n) := Own.cellN HOk.out hmm (fun _ => rfl) (j + 1) z (mid_at' acc _ z hk) 6 _ rfl
                      have f0 : wr.frozen? ⟨g1, (j + 1) * 7, none⟩ = false := f _
                      have f1 : wr.frozen? ⟨g1, (j + 1) * 7 + 1, none⟩ = false := f _
                      have f2 : wr.frozen? ⟨g1, (j + 1) * 7 + 2, none⟩ = false := f _
                      have f3 : wr.frozen? ⟨g1, (j + 1) * 7 + 3, none⟩ = false := f _
                      have f4 : wr.frozen? ⟨g1, (j + 1) * 7 + 4, none⟩ = false := f _
                      have f5 : wr.frozen? ⟨g1, (j + 1) * 7 + 5, none⟩ = false := f _
                      have f6 : wr.frozen? ⟨g1, (j + 1) * 7 + 6, none⟩ = false := f _
                      clear f
                      have j1 : ¬ ((((j + 1) : Nat) : Int) > ((j + 1) : Nat)) := by omega
                      have j3 : (((j + 1) : Nat) : Int) < m := by omega
                      obtain ⟨b1, o1, hA1, hab1, hcx⟩ := at7 (Rd.same HR.out HSk.out) (fun _ => rfl) (by decide) i x hx
                      cases hA1
                      have n0 : wr.cell? ⟨bb, oo + i * 7, none⟩ = some (.int .i64 x.l) := hcx 0 _ rfl
                      have n1 : wr.cell? ⟨bb, oo + i * 7 + 1, none⟩ = some (.int .u32 x.t.e) := hcx 1 _ rfl
                      have n2 : wr.cell? ⟨bb, oo + i * 7 + 2, none⟩ = some (.int .i64 x.t.d) := hcx 2 _ rfl
                      have n3 : wr.cell? ⟨bb, oo + i * 7 + 3, none⟩ = some (.int .u32 x.t.a) := hcx 3 _ rfl
                      have n4 : wr.cell? ⟨bb, oo + i * 7 + 4, none⟩ = some (.int .u32 x.t.b) := hcx 4 _ rfl
                      have n5 : wr.cell? ⟨bb, oo + i * 7 + 5, none⟩ = some (.int .u32 x.t.c) := hcx 5 _ rfl
                      have n6 : wr.cell? ⟨bb, oo + i * 7 + 6, none⟩ = some (.int .i64 x.n) := hcx 6 _ rfl
                      clear hcx
                      have HO5 := Lib.hid (Own.set7' HOk.out hmm (j + 1) (by omega) x)
                      rw [mid_set acc (j + 1) z x hk, ← HIns.out] at HO5
                      clear hmm
                      go_wp2_with fail
                      go_roundw
                      case rel => exact ⟨i + 1, ins acc x, by go_num, by omega, HFn.out, HO5.out, ((((((HSk.out.set hgb _).set hgb _).set hgb _).set hgb _).set hgb _).set hgb _).set hgb _, ins_srt acc x HSt.out, by have := ins_len acc x; omega, HBn.out⟩
                      case measure => simp [intOf]; omega
        · obtain rfl : i = l.length := by omega
          have HSum : Hid (sums l = acc) := by
            have := HF.out
            rw [List.take_length] at this
            exact this
          have hi3 : ¬ ((l.length : Int) < l.length) := by omega
          obtain ⟨A6, c6, rfl, hc6⟩ := (HO.out.rd).len
          obtain ⟨wo, hwo⟩ : ∃ wo, wo = wr := ⟨_, rfl⟩
          subst hwo
          go_wp2_with fail
          go_loopw [10, 11] (fun ov iv wq => ∃ i : Nat, iv = .int .i64 i ∧ i ≤ acc.length ∧ Hid (Own wq wo.heap.size 69 7 encD ov (live (acc.take i))) ∧ Hid (Same wo wq) ∧ Hid (∀ y ∈ acc.take i, okN y.n)) (fun _ iv _ => acc.length - (intOf iv).toNat)
          case atStart => exact ⟨0, rfl, by omega, Own.nil _ _ _ _ _, Same.refl _, by simp [Hid]⟩
          case round =>
            obtain ⟨i, rfl, hi, HOo, HSq, HN⟩ := hrel
            rcases Nat.lt_or_ge i acc.length with hil | hil
            · obtain ⟨y, hy⟩ : ∃ y, acc[i]? = some y := ⟨_, List.getElem?_eq_getElem hil⟩
              obtain ⟨g, c6', hform, hBg, hglt⟩ := own_form HO.out (by omega)
              cases hform
              have HOq : Hid (Own wr w.heap.size 69 7 encD (.slice (some ⟨g, 0, none⟩) acc.length c6) acc) := HO.out.same HSq.out
              have m0 : wr.cell? ⟨g, i * 7, none⟩ = some (.int .i64 y.l) := Own.cellN HOq.out rfl (fun _ => rfl) i y hy 0 _ rfl
              have m1 : wr.cell? ⟨g, i * 7 + 1, none⟩ = some (.int .u32 y.t.e) := Own.cellN HOq.out rfl (fun _ => rfl) i y hy 1 _ rfl
              have m2 : wr.cell? ⟨g, i * 7 + 2, none⟩ = some (.int .i64 y.t.d) := Own.cellN HOq.out rfl (fun _ => rfl) i y hy 2 _ rfl
              have m3 : wr.cell? ⟨g, i * 7 + 3, none⟩ = some (.int .u32 y.t.a) := Own.cellN HOq.out rfl (fun _ => rfl) i y hy 3 _ rfl
              have m4 : wr.cell? ⟨g, i * 7 + 4, none⟩ = some (.int .u32 y.t.b) := Own.cellN HOq.out rfl (fun _ => rfl) i y hy 4 _ rfl
              have m5 : wr.cell? ⟨g, i * 7 + 5, none⟩ = some (.int .u32 y.t.c) := Own.cellN HOq.out rfl (fun _ => rfl) i y hy 5 _ rfl
              have m6 : wr.cell? ⟨g, i * 7 + 6, none⟩ = some (.int .i64 y.n) := Own.cellN HOq.out rfl (fun _ => rfl) i y hy 6 _ rfl
              clear HOq
              have HWn := Lib.hid (fun W => within21 y.n W)
              have hi2 : (i : Int) < acc.length := by omega
              have hlv : live (acc.take (i + 1)) = live (acc.take i) ++ (if y.n ≠ 0 then [y] else []) := by
                rw [List.take_add_one, hy]
                exact live_snoc _ _
              have hll : (live (acc.take i)).length ≤ acc.length := by
                have h1 := List.length_filter_le (fun x : Dl => decide (x.n ≠ 0)) (acc.take i)
                rw [List.length_take] at h1
                unfold live
                omega
              by_cases hok : okN y.n
              · have HN2 : Hid (∀ z ∈ acc.take (i + 1), okN z.n) := by
                  rw [List.take_add_one, hy]
                  intro z hz
                  rcases List.mem_append.1 hz with hz | hz
                  · exact HN.out z hz
                  · have := List.mem_singleton.1 hz; subst this; exact hok
                rw [show decide (okN y.n) = true by simp [hok]] at HWn
                clear hok
                by_cases hy0 : y.n = 0
                · have HL : Hid (live (acc.take (i + 1)) = live (acc.take i)) := by unfold Hid; rw [hlv]; simp [hy0]
                  have z1 : (y.n == 0) = true := by simp [hy0]
                  have z2 : (y.n != 0) = false := by simp [hy0]
                  clear hy0 hlv
                  go_wp2_with fail
                  refine (HWn.out _).mono ?_
                  rintro r w' ⟨rfl, rfl⟩
                  go_wp2_with fail
                  go_roundw
                  case rel => exact ⟨i + 1, by go_num, by omega, by rw [HL.out]; exact HOo.out, HSq.out, HN2.out⟩
                  case measure => simp [intOf]; omega
                · have HL : Hid (live (acc.take (i + 1)) = live (acc.take i) ++ [y]) := by unfold Hid; rw [hlv]; simp [hy0]
                  have z1 : (y.n == 0) = false := by simp [hy0]
                  have z2 : (y.n != 0) = true := by simp [hy0]
                  clear hy0 hlv
                  go_wp2_with fail
                  refine (HWn.out _).mono ?_
                  rintro r w' ⟨rfl, rfl⟩
                  go_wp2_with (at_builtin; refine app1 wr wo.heap.size rfl (.tmp 157) (.tmp 162) _ 69 _ 7 48 rfl Try.underlying22 infoD rfl (by decide) (by decide) encD (fun _ => rfl) (fun x u hu => by simp [encD] at hu; rcases hu with rfl | rfl | rfl | rfl | rfl | rfl | rfl <;> rfl) u10 (live (acc.take i)) y rfl rfl HOo.out HSq.out.size (by omega) rfl ?_; intro v1 w1 hown1 hg1 hat1; have HO1 := Lib.hid hown1; clear hown1; have HG1 := Lib.hid hg1; clear hg1 hat1)
                  go_roundw
                  case rel => exact ⟨i + 1, by go_num, by omega, by rw [HL.out]; exact HO1.out, Below.grown HSq.out HG1.out HSq.out.size (fun j hj => (Own.block HOo.out hj).1), HN2.out⟩
                  case measure => simp [intOf]; omega
              · have HE : Hid (fold l = ([], 9)) := by
                  unfold Hid fold
                  rw [if_neg h4, if_pos HE0.out, if_neg (fun q => hok (q y (by rw [HSum.out]; exact List.mem_of_getElem? hy)))]
                rw [show decide (okN y.n) = false by simp [hok]] at HWn
                clear hok hlv
                go_wp2_with fail
                refine (HWn.out _).mono ?_
                rintro r w' ⟨rfl, rfl⟩
                go_wp2_with fail
                go_ret2
                exact ⟨.slice none 0 0, by rw [HE.out]; rfl, by rw [HE.out]; exact Own.nil _ _ _ _ _, HS.out.trans HSq.out⟩
            · obtain rfl : i = acc.length := by omega
              simp only [List.take_length] at HOo HN
              have hi4 : ¬ ((acc.length : Int) < acc.length) := by omega
              have HN2 : Hid (∀ x ∈ sums l, okN x.n) := by unfold Hid; rw [HSum.out]; exact HN.out
              obtain ⟨A8, c8, rfl, hc8⟩ := (HOo.out.rd).len
              by_cases h256 : 256 < (live acc).length
              · have HE : Hid (fold l = ([], 7)) := by
                  unfold Hid fold
                  rw [if_neg h4, if_pos HE0.out, if_pos HN2.out, if_pos (by rw [HSum.out]; exact h256)]
                have hg : decide (((live acc).length : Int) > 256) = true := by simp; omega
                go_wp2_with fail
                go_ret2
                exact ⟨.slice none 0 0, by rw [HE.out]; rfl, by rw [HE.out]; exact Own.nil _ _ _ _ _, HS.out.trans HSq.out⟩
              · have HE : Hid (fold l = (live acc, 0)) := by
                  unfold Hid fold
                  rw [if_neg h4, if_pos HE0.out, if_pos HN2.out, if_neg (by rw [HSum.out]; exact h256), HSum.out]
                have hg : decide (((live acc).length : Int) > 256) = false := by simp; omega
                go_wp2_with fail
                go_ret2
                exact ⟨_, by rw [HE.out]; rfl, by rw [HE.out]; exact HOo.out.mono HS.out.size, HS.out.trans HSq.out⟩
end Go.Proofs.Ytjmnncggjgmfdaa
