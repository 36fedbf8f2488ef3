/- Counts, folded by a map. -/
import Derived.Test.YtjmnncggjgmfdaaM3
namespace Go.Proofs.Ytjmnncggjgmfdaa
open Go.RowKit Ws
open Go.ChangeMaps (setBlock)
set_option linter.unusedVariables false
set_option linter.unusedSimpArgs false

/-- No count of a table is beyond. -/
def BdT (tb : List Dl) (B : Int) : Prop := ∀ y ∈ tb, -B ≤ y.n ∧ y.n ≤ B
theorem BdT.atN {tb : List Dl} {B : Int} (h : BdT tb B) (x : Dl) (hB : 0 ≤ B) : -B ≤ atN tb x ∧ atN tb x ≤ B := by
  unfold Go.Proofs.Ytjmnncggjgmfdaa.atN
  cases hf : tb.find? fun y => decide (y.key = x.key) with
  | none => simp; omega
  | some y => simpa using h y (List.mem_of_find?_eq_some hf)
theorem BdT.upd {tb : List Dl} {B C : Int} (h : BdT tb B) (x : Dl) (hB : 0 ≤ B) (hC : 0 ≤ C) (hx : -C ≤ x.n ∧ x.n ≤ C) : BdT (upd tb x) (B + C) := by
  induction tb with
  | nil =>
    intro y hy
    simp only [Ws.upd, List.mem_singleton] at hy
    subst hy
    omega
  | cons a l ih =>
    have ha := h a List.mem_cons_self
    have hl : BdT l B := fun y hy => h y (List.mem_cons_of_mem _ hy)
    intro y hy
    simp only [Ws.upd] at hy
    split at hy
    · rcases List.mem_cons.1 hy with rfl | hy
      · simp only; omega
      · have := hl y hy; omega
    · rcases List.mem_cons.1 hy with rfl | hy
      · omega
      · exact ih hl y hy
theorem errs_at {l : List Dl} {i : Nat} {x : Dl} (h : ∀ y ∈ l.take i, y.check = 0) (hx : l[i]? = some x) (hn : x.check ≠ 0) : errs l = x.check := by
  induction l generalizing i with
  | nil => simp at hx
  | cons a l ih =>
    cases i with
    | zero =>
      simp only [List.getElem?_cons_zero, Option.some.injEq] at hx
      subst hx
      simp [errs, hn]
    | succ i =>
      have ha : a.check = 0 := h a (by simp)
      simp only [errs, ha, if_true]
      exact ih (fun y hy => h y (by rw [List.take_succ_cons]; exact List.mem_cons_of_mem _ hy)) (by simpa using hx)

/-- What folding comes to. -/
def FoldR (B : Nat) (l : List Dl) (w : World) (r : Ending) (w' : World) : Prop := ∃ v, r = .returned (.tuple #[v, .int .i64 (fold l).2]) ∧ Own w' B 69 7 encD v (fold l).1 ∧ Same w w'

theorem mapAt_same {w w' : World} {b : Nat} {tb : List Dl} (h : MapAt w b tb) (hs : Same w w') : MapAt w' b tb := by
  obtain ⟨es, clock, hb, h2⟩ := h
  have hlt : b < w.heap.size := by
    rcases Nat.lt_or_ge b w.heap.size with hlt | hge
    · exact hlt
    · rw [Array.getElem?_eq_none hge] at hb; cases hb
  exact ⟨es, clock, by rw [hs.block b hlt]; exact hb, h2⟩
theorem mapAt_lt {w : World} {b : Nat} {tb : List Dl} (h : MapAt w b tb) : b < w.heap.size := by
  obtain ⟨es, clock, hb, h2⟩ := h
  rcases Nat.lt_or_ge b w.heap.size with hlt | hge
  · exact hlt
  · rw [Array.getElem?_eq_none hge] at hb; cases hb

theorem at7 {α : Type} {k : Nat} {enc : α → List Value} {w : World} {A : Option Addr} {n c : Nat} {xs : List α} (h : Rd w k enc (.slice A n c) xs) (hk : ∀ x, (enc x).length = k) (h0 : 0 < k) (i : Nat) (x : α) (hx : xs[i]? = some x) :
    ∃ bb oo : Nat, A = some ⟨bb, oo, none⟩ ∧ bb < w.heap.size ∧ ∀ j u, (enc x)[j]? = some u → w.cell? ⟨bb, oo + i * k + j, none⟩ = some u := by
  have hl : 0 < xs.length := by have := (List.getElem?_eq_some_iff.1 hx).1; omega
  have hx0 : xs[0]? = some xs[0] := List.getElem?_eq_getElem hl
  obtain ⟨ad0, hA0, _, hc0⟩ := h.at hk rfl 0 xs[0] hx0
  obtain ⟨ad, hA, hb, hc⟩ := h.at hk rfl i x hx
  obtain rfl : ad0 = ad := Option.some.inj (hA0.symm.trans hA)
  subst hA
  clear hA0
  obtain ⟨bb, oo, sp⟩ := ad0
  have hn : 0 < (enc xs[0]).length := by rw [hk]; exact h0
  have h1 := hc0 0 (enc xs[0])[0] (List.getElem?_eq_getElem hn)
  cases sp with
  | none =>
    refine ⟨bb, oo, rfl, hb, fun j u hu => ?_⟩
    have := hc j u hu
    unfold Addr.add at this
    rw [Nat.add_assoc]
    split at this
    · rename_i h9; rw [h9]; exact this
    · exact this
  | some s =>
    exfalso
    revert h1
    simp only [Nat.zero_mul, Nat.add_zero, Addr.add, if_true, World.cell?, Option.isSome_some]
    split <;> simp

def leftN (w : World) (b r : Nat) : Nat := match w.heap[b]?, w.heap[r]? with
  | some (.map es _), some (.mapIter _ _ seen _) => (leftOf es seen).toList.length
  | _, _ => 0
theorem RngAt.left {w : World} {b r : Nat} {rs : List Dl} (h : RngAt w b r rs) : leftN w b r = rs.length := by
  obtain ⟨es, clock, seen, h1, h2, _, _, h3⟩ := h
  unfold leftN
  rw [h1, h2]
  have := congrArg List.length h3
  simpa using this

theorem upd_len (l : List Dl) (d : Dl) : (upd l d).length ≤ l.length + 1 := by
  induction l with
  | nil => simp [upd]
  | cons a l ih =>
    simp only [upd]
    split
    · simp
    · simp only [List.length_cons]; omega
theorem upds_len (l : List Dl) : ∀ A, (l.foldl upd A).length ≤ A.length + l.length := by
  induction l with
  | nil => intro A; simp
  | cons a l ih =>
    intro A
    have h1 := ih (upd A a)
    have h2 := upd_len A a
    simp only [List.foldl_cons, List.length_cons]
    omega
theorem live_snoc (ds : List Dl) (y : Dl) : live (ds ++ [y]) = live ds ++ (if y.n ≠ 0 then [y] else []) := by
  unfold live
  rw [List.filter_append, List.filter_cons]
  by_cases h : y.n = 0 <;> simp [h]
theorem infoD : (Try.prog.info? 69).map (fun i => (i.zero, i.size, i.bytes)) = some (some (.agg #[.int .i64 0, .int .u32 0, .int .i64 0, .int .u32 0, .int .u32 0, .int .u32 0, .int .i64 0]), 7, 48) := by kernel_rfl
/-- The sort by order of place and time. -/
def SortOk : Prop := ∀ (v : Value) (xs : List Dl) (w : World) (B : Nat), Own w B 69 7 encD v xs → xs.length ≤ 4096 →
  Calls Try.prog 29 #[v, .func (.func 30) #[] #[]] w fun r w' => r = .returned (.tuple #[]) ∧ ∃ ys, xs.Perm ys ∧ ys.Pairwise (fun x y => ¬ y.cmp x < 0) ∧ Own w' B 69 7 encD v ys ∧ w.grownBy w' v.ownBlock

theorem srt_live {tb ds ys l : List Dl} (h1 : tb.Perm (sums l)) (h2 : tb.Perm ds) (h3 : (live ds).Perm ys) (h4 : ys.Pairwise fun x y => ¬ y.cmp x < 0) : ys = live (sums l) :=
  srt_eq ys (live (sums l)) (h3.symm.trans ((h2.symm.trans h1).filter _)) ((sums_srt l).sublist List.filter_sublist) h4

theorem mkMap (W : World) : (Instr.makeMap 67 none).run Try.prog W = .ok (.map (some W.heap.size)) (W.alloc (.map #[] 0)) := by kernel_rfl

set_option maxRecDepth 20000 in
set_option maxHeartbeats 2000000 in
theorem fold_walk (hsort : SortOk) (v : Value) (l : List Dl) (w : World) (hv : Rd w 7 encD v l) (ok : ∀ x ∈ l, x.Ok) (hlen : l.length ≤ 1000000) : Calls Try.prog 6 #[v] w (FoldR w.heap.size l w) := by
  have HSO := Lib.hid hsort
  clear hsort
  have HR := Lib.hid hv
  have HK := Lib.hid ok
  obtain ⟨A, c, rfl, hc⟩ := hv.len
  clear hv ok
  by_cases h4 : 4096 < l.length
  · have HE : Hid (fold l = ([], 7)) := by unfold Hid fold; rw [if_pos h4]
    have hg : decide ((l.length : Int) > 4096) = true := by simp; omega
    go_enter Try.func6, Try.ntmps6
    go_wp2_with fail
    go_ret2
    refine ⟨.slice none 0 0, by rw [HE.out]; rfl, by rw [HE.out]; exact Own.nil _ _ _ _ _, Same.refl _⟩
  have h4' : l.length ≤ 4096 := by omega
  have hmk := mkMap w
  go_enter Try.func6, Try.ntmps6
  go_wp2_with fail
  have b0 : MapAt (w.alloc (.map #[] 0)) w.heap.size [] := ⟨#[], 0, heap_alloc_new w _, rfl, by simp, by simp, by simp, List.Pairwise.nil⟩
  go_loopw [17] (fun iv wr => ∃ i : Nat, iv = .int .i64 i ∧ i ≤ l.length ∧ Hid (MapAt wr w.heap.size ((l.take i).foldl upd [])) ∧ Hid (Same w wr) ∧ Hid (∀ y ∈ l.take i, y.check = 0) ∧ Hid (BdT ((l.take i).foldl upd []) (i * 1099511627776)) ∧ w.heap.size < wr.heap.size) (fun iv _ => l.length - (intOf iv).toNat)
  case atStart => exact ⟨0, rfl, by omega, b0, (Same.refl w).alloc _, by simp [Hid], by intro y hy; simp at hy, by simp⟩
  case round =>
    obtain ⟨i, rfl, hi, HM, HS, HC, HB, hlt⟩ := hrel
    have HR2 := Lib.hid (Rd.same HR.out HS.out)
    rcases Nat.lt_or_ge i l.length with hil | hil
    · obtain ⟨x, hx⟩ : ∃ x, l[i]? = some x := ⟨_, List.getElem?_eq_getElem hil⟩
      obtain ⟨bb, oo, hA, hab, hcell⟩ := at7 HR2.out (fun _ => rfl) (by decide) i x hx
      subst hA
      have k0 : wr.cell? ⟨bb, oo + i * 7, none⟩ = some (.int .i64 x.l) := hcell 0 _ rfl
      have k1 : wr.cell? ⟨bb, oo + i * 7 + 1, none⟩ = some (.int .u32 x.t.e) := hcell 1 _ rfl
      have k2 : wr.cell? ⟨bb, oo + i * 7 + 2, none⟩ = some (.int .i64 x.t.d) := hcell 2 _ rfl
      have k3 : wr.cell? ⟨bb, oo + i * 7 + 3, none⟩ = some (.int .u32 x.t.a) := hcell 3 _ rfl
      have k4 : wr.cell? ⟨bb, oo + i * 7 + 4, none⟩ = some (.int .u32 x.t.b) := hcell 4 _ rfl
      have k5 : wr.cell? ⟨bb, oo + i * 7 + 5, none⟩ = some (.int .u32 x.t.c) := hcell 5 _ rfl
      have k6 : wr.cell? ⟨bb, oo + i * 7 + 6, none⟩ = some (.int .i64 x.n) := hcell 6 _ rfl
      clear hcell
      have hi2 : (i : Int) < l.length := by omega
      have HD := Lib.hid (fun W => dcheck x W)
      have okx := HK.out x (List.mem_of_getElem? hx)
      have HX := Lib.hid okx
      have hchk := check_zero (x := x)
      obtain ⟨k, hk⟩ : ∃ k, x.check = k := ⟨_, rfl⟩
      rw [hk] at HD hchk
      by_cases hz : k = 0
      · have hz1 : (k == 0) = true := by simp [hz]
        have hz2 : (k != 0) = false := by simp [hz]
        obtain ⟨_, _, _, hn0, hn1⟩ := hchk hz
        have HZ := Lib.hid (hk.trans hz)
        clear hchk hz hk
        go_wp2_with fail
        have b6 := Bk.new wr 69 #[.int .i64 x.l, .int .u32 x.t.e, .int .i64 x.t.d, .int .u32 x.t.a, .int .u32 x.t.b, .int .u32 x.t.c, .int .i64 x.n]
        have s6 := (Same.refl wr).alloc (.cells #[.int .i64 x.l, .int .u32 x.t.e, .int .i64 x.t.d, .int .u32 x.t.a, .int .u32 x.t.b, .int .u32 x.t.c, .int .i64 x.n] 69)
        refine (HD.out _).mono ?_
        rintro r W1 ⟨rfl, hs⟩
        have b7 := b6.same hs
        have s7 := s6.trans hs
        clear b6 s6 hs k0 k1 k2 k3 k4 k5 k6 HD
        have hat := BdT.atN HB.out x (by omega)
        obtain ⟨N, hN⟩ : ∃ N, atN ((l.take i).foldl upd []) x = N := ⟨_, rfl⟩
        obtain ⟨st, W2, W4, m1, m2, m3, m4, o2, o4, m5⟩ := map_add (mapAt_same HM.out (s7.drewN 1)) (x := x) ⟨okx.t, okx.l0, okx.l1⟩
        rw [hN] at hat m1 m2 m3 m4
        have hw : IntKind.i64.wrap (N + x.n) = N + x.n := IntWalk.i64_in _ (by omega)
        have hne : wr.heap.size ≠ w.heap.size := by omega
        have b8 := Bk.only (b7.drewN 1) o2 hne
        have c0 : W1.cell? ⟨wr.heap.size, 0, none⟩ = some (.int .i64 x.l) := Bk.cell b7 0 _ rfl
        have d0 : W2.cell? ⟨wr.heap.size, 0, none⟩ = some (.int .i64 x.l) := Bk.cell b8 0 _ rfl
        have c1 : W1.cell? ⟨wr.heap.size, 1, none⟩ = some (.int .u32 x.t.e) := Bk.cell b7 1 _ rfl
        have d1 : W2.cell? ⟨wr.heap.size, 1, none⟩ = some (.int .u32 x.t.e) := Bk.cell b8 1 _ rfl
        have c2 : W1.cell? ⟨wr.heap.size, 2, none⟩ = some (.int .i64 x.t.d) := Bk.cell b7 2 _ rfl
        have d2 : W2.cell? ⟨wr.heap.size, 2, none⟩ = some (.int .i64 x.t.d) := Bk.cell b8 2 _ rfl
        have c3 : W1.cell? ⟨wr.heap.size, 3, none⟩ = some (.int .u32 x.t.a) := Bk.cell b7 3 _ rfl
        have d3 : W2.cell? ⟨wr.heap.size, 3, none⟩ = some (.int .u32 x.t.a) := Bk.cell b8 3 _ rfl
        have c4 : W1.cell? ⟨wr.heap.size, 4, none⟩ = some (.int .u32 x.t.b) := Bk.cell b7 4 _ rfl
        have d4 : W2.cell? ⟨wr.heap.size, 4, none⟩ = some (.int .u32 x.t.b) := Bk.cell b8 4 _ rfl
        have c5 : W1.cell? ⟨wr.heap.size, 5, none⟩ = some (.int .u32 x.t.c) := Bk.cell b7 5 _ rfl
        have d5 : W2.cell? ⟨wr.heap.size, 5, none⟩ = some (.int .u32 x.t.c) := Bk.cell b8 5 _ rfl
        have c6 : W1.cell? ⟨wr.heap.size, 6, none⟩ = some (.int .i64 x.n) := Bk.cell b7 6 _ rfl
        have d6 : W2.cell? ⟨wr.heap.size, 6, none⟩ = some (.int .i64 x.n) := Bk.cell b8 6 _ rfl
        simp only [vK, goInt] at m1 m2 m3 m4
        have m1' := m1
        have m2' := m2
        change (Instr.mapEntry _ _ _).run _ W1.drew = _ at m1'
        change (Instr.lookup _ _ _ _).run _ W1.drew = _ at m2'
        have M5 := Lib.hid m5
        have O4 := Lib.hid o4
        have S7 := Lib.hid s7
        clear m5 o4 s7 b7 b8 o2 okx
        go_wp2_with fail
        go_region
        go_wp2_with fail
        have htk : (l.take (i + 1)).foldl upd [] = upd ((l.take i).foldl upd []) x := by
          rw [List.take_add_one, hx]
          simp
        have htc : ∀ y ∈ l.take (i + 1), y.check = 0 := by
          rw [List.take_add_one, hx]
          intro y hy
          rcases List.mem_append.1 hy with hy | hy
          · exact HC.out y hy
          · have := List.mem_singleton.1 hy; subst this; exact HZ.out
        have hbd := BdT.upd HB.out x (by omega) (C := 1099511627776) (by omega) (by omega)
        have hsz := O4.out.size
        have hsz1 := S7.out.size
        have s4 : Same w W4 := Same.only ((HS.out.trans S7.out).drewN 1) O4.out (Nat.le_refl _)
        go_roundw
        case rel =>
          refine ⟨i + 1, by go_num, by omega, by rw [htk]; exact M5.out, s4, htc, by rw [htk]; have e : ((i + 1 : Nat) : Int) * 1099511627776 = i * 1099511627776 + 1099511627776 := by omega
                                                                                     rw [e]; exact hbd, ?_⟩
          have : (W1.drewN 1).heap.size = W1.heap.size := rfl
          omega
        case measure => simp [intOf]; omega
      · have hz1 : (k == 0) = false := by simp [hz]
        have hz2 : (k != 0) = true := by simp [hz]
        have HE : Hid (fold l = ([], k)) := by
          have he := errs_at HC.out hx (by rw [hk]; exact hz)
          rw [hk] at he
          unfold Hid fold
          rw [if_neg h4, if_neg (by rw [he]; exact hz), he]
        clear hchk hz hk
        go_wp2_with fail
        refine (HD.out _).mono ?_
        rintro r W1 ⟨rfl, hs⟩
        have HS1 := Lib.hid hs
        clear hs
        go_wp2_with fail
        go_ret2
        exact ⟨.slice none 0 0, by rw [HE.out]; rfl, by rw [HE.out]; exact Own.nil _ _ _ _ _, HS.out.trans (((Same.refl wr).alloc _).trans HS1.out)⟩
    · obtain rfl : i = l.length := by omega
      simp only [List.take_length] at HM HC HB
      have hi2 : ¬ ((l.length : Int) < l.length) := by omega
      have HP : Hid ((l.foldl upd []).Perm (sums l)) := (upds_ins l [] [] (List.Perm.refl _) List.Pairwise.nil).1
      have HE0 : Hid (errs l = 0) := errs_of HC.out
      have htl : (l.foldl upd []).length ≤ l.length := by have := upds_len l []; simpa using this
      generalize l.foldl upd [] = tb at HM HB HP htl
      obtain ⟨o, hr0, hrng⟩ := rng_start HM.out
      go_wp2_with fail
      obtain ⟨W1, hW1⟩ : ∃ W1, wr.alloc o = W1 := ⟨_, rfl⟩
      have HS1 : Hid (Same w W1) := by unfold Hid; rw [← hW1]; exact HS.out.alloc _
      have hl1 : wr.heap.size < W1.heap.size := by rw [← hW1]; simp
      rw [hW1] at hrng ⊢
      generalize hrr : wr.heap.size = rr at *
      go_loopw [8] (fun v8 wq => ∃ ds rs, Hid (tb.Perm (ds ++ rs)) ∧ Hid (Own wq (rr + 1) 69 7 encD v8 (live ds)) ∧ Hid (RngAt wq w.heap.size rr rs) ∧ Hid (Same w wq) ∧ Hid (∀ x ∈ ds, okN x.n)) (fun _ wq => leftN wq w.heap.size rr)
      case atStart => exact ⟨[], tb, List.Perm.refl _, Own.nil _ _ _ _ _, hrng, HS1.out, by intro x hx; cases hx⟩
      case round =>
        obtain ⟨ds, rs, HD, HO, HG, HS2, HN⟩ := hrel
        have hgl := HG.out.lt
        have hdl : ds.length + rs.length ≤ l.length := by have := HD.out.length_eq; rw [List.length_append] at this; omega
        have hll : (live ds).length ≤ ds.length := List.length_filter_le _ _
        rcases rng_next HG.out 0 with ⟨hrs, hn⟩ | ⟨a, y, e, W2, hrs, hn, hg2, ho2, he2⟩
        · subst hrs
          rw [List.append_nil] at HD
          have HD2 : Hid ((live ds).Perm (live (sums l))) := (HD.out.symm.trans HP.out).filter _
          have HN2 : Hid (∀ x ∈ sums l, okN x.n) := fun x hx => HN.out x (HD.out.mem_iff.1 (HP.out.mem_iff.2 hx))
          obtain ⟨A8, c8, rfl, hc8⟩ := (HO.out.rd).len
          by_cases h256 : 256 < (live ds).length
          · have HE : Hid (fold l = ([], 7)) := by
              unfold Hid fold
              rw [if_neg h4, if_pos HE0.out, if_pos HN2.out, if_pos (by rw [← HD2.out.length_eq]; exact h256)]
            have hg : decide (((live ds).length : Int) > 256) = true := by simp; omega
            go_wp2_with fail
            go_ret2
            exact ⟨.slice none 0 0, by rw [HE.out]; rfl, by rw [HE.out]; exact Own.nil _ _ _ _ _, HS2.out⟩
          · have HE : Hid (fold l = (live (sums l), 0)) := by
              unfold Hid fold
              rw [if_neg h4, if_pos HE0.out, if_pos HN2.out, if_neg (by rw [← HD2.out.length_eq]; exact h256)]
            have hg : decide (((live ds).length : Int) > 256) = false := by simp; omega
            have HSo := Lib.hid (HSO.out _ _ _ _ HO.out (by omega))
            go_wp2_with fail
            refine HSo.out.mono ?_
            rintro r W5 ⟨rfl, ys, hp5, hs5, ho5, hg5⟩
            have hys : ys = live (sums l) := srt_live HP.out HD.out hp5 (hs5.imp fun {x y} q => by omega)
            have HO5 := Lib.hid ho5
            have HG5 := Lib.hid hg5
            subst hys
            clear ho5 hg5 hp5 hs5
            go_wp2_with fail
            go_ret2
            refine ⟨_, by rw [HE.out]; rfl, by rw [HE.out]; exact HO5.out.mono (by omega), ?_⟩
            exact Below.grown HS2.out HG5.out HS2.out.size (fun j hj => Nat.le_trans (by omega) (Own.block HO.out hj).1)
        · subst hrs
          have HWI := Lib.hid (fun W => within_any y.n W)
          have HG2 := Lib.hid hg2
          have HO2 := Lib.hid (HO.out.only ho2 (Nat.lt_succ_self _))
          have HS3 : Hid (Same w W2) := Same.only HS2.out ho2 (by omega)
          have HD2 : Hid (tb.Perm ((ds ++ [y]) ++ (a ++ e))) := by
            refine HD.out.trans ?_
            rw [List.append_assoc]
            refine List.Perm.append_left ds ?_
            exact List.perm_middle
          clear hg2 ho2
          by_cases hok : okN y.n
          · have HN2 : Hid (∀ x ∈ ds ++ [y], okN x.n) := by
              intro x hx
              rcases List.mem_append.1 hx with hx | hx
              · exact HN.out x hx
              · rw [List.mem_singleton.1 hx]; exact hok
            have hdk : decide (okN y.n) = true := by simp [hok]
            rw [hdk] at HWI
            clear hok hdk
            by_cases hy0 : y.n = 0
            · have HL : Hid (live (ds ++ [y]) = live ds) := by unfold Hid; rw [live_snoc]; simp [hy0]
              have z1 : (y.n == 0) = true := by simp [hy0]
              have z2 : (y.n != 0) = false := by simp [hy0]
              clear hy0
              go_wp2_with fail
              refine (HWI.out _).mono ?_
              rintro r w' ⟨rfl, rfl⟩
              go_wp2_with fail
              go_roundw
              case rel => exact ⟨ds ++ [y], a ++ e, HD2.out, by rw [HL.out]; exact HO2.out.alloc _, HG2.out.same ((Same.refl _).alloc _), HS3.out.alloc _, HN2.out⟩
              case measure => rw [(HG2.out.same ((Same.refl _).alloc _)).left, HG.out.left]; simp
            · have HL : Hid (live (ds ++ [y]) = live ds ++ [y]) := by unfold Hid; rw [live_snoc]; simp [hy0]
              have z1 : (y.n == 0) = false := by simp [hy0]
              have z2 : (y.n != 0) = true := by simp [hy0]
              clear hy0
              go_wp2_with fail
              have b6 := Bk.new W2 72 #[.int .i64 y.l, .int .u32 y.t.e, .int .i64 y.t.d, .int .u32 y.t.a, .int .u32 y.t.b, .int .u32 y.t.c]
              have hgs := HG2.out.lt
              obtain ⟨W3, hW3⟩ : ∃ W3, (W2.alloc (.cells #[.int .i64 y.l, .int .u32 y.t.e, .int .i64 y.t.d, .int .u32 y.t.a, .int .u32 y.t.b, .int .u32 y.t.c] 72)) = W3 := ⟨_, rfl⟩
              have HO3 : Hid (Own W3 (rr + 1) 69 7 encD u8 (live ds)) := by unfold Hid; rw [← hW3]; exact HO2.out.alloc _
              have HG3 : Hid (RngAt W3 w.heap.size rr (a ++ e)) := by unfold Hid; rw [← hW3]; exact HG2.out.same ((Same.refl _).alloc _)
              have HS4 : Hid (Same w W3) := by unfold Hid; rw [← hW3]; exact HS3.out.alloc _
              have hl3 : rr + 1 ≤ W3.heap.size := by rw [← hW3]; simp; omega
              rw [hW3] at b6 ⊢
              clear hW3
              have k0 : W3.cell? ⟨W2.heap.size, 0, none⟩ = some (.int .i64 y.l) := Bk.cell b6 0 _ rfl
              have k1 : W3.cell? ⟨W2.heap.size, 1, none⟩ = some (.int .u32 y.t.e) := Bk.cell b6 1 _ rfl
              have k2 : W3.cell? ⟨W2.heap.size, 2, none⟩ = some (.int .i64 y.t.d) := Bk.cell b6 2 _ rfl
              have k3 : W3.cell? ⟨W2.heap.size, 3, none⟩ = some (.int .u32 y.t.a) := Bk.cell b6 3 _ rfl
              have k4 : W3.cell? ⟨W2.heap.size, 4, none⟩ = some (.int .u32 y.t.b) := Bk.cell b6 4 _ rfl
              have k5 : W3.cell? ⟨W2.heap.size, 5, none⟩ = some (.int .u32 y.t.c) := Bk.cell b6 5 _ rfl
              clear b6
              refine (HWI.out _).mono ?_
              rintro r w' ⟨rfl, rfl⟩
              go_wp2_with (at_builtin; refine app1 W3 (rr + 1) rfl (.tmp 51) (.tmp 58) _ 69 _ 7 48 rfl Try.underlying22 infoD rfl (by decide) (by decide) encD (fun _ => rfl) (fun x u hu => by simp [encD] at hu; rcases hu with rfl | rfl | rfl | rfl | rfl | rfl | rfl <;> rfl) u8 (live ds) y rfl rfl HO3.out hl3 (by omega) rfl ?_; intro v1 w1 hown1 hg1 hat1; have HO1 := Lib.hid hown1; clear hown1; have HG1 := Lib.hid hg1; clear hg1 hat1)
              have HGN : Hid (RngAt w1 w.heap.size rr (a ++ e)) := HG3.out.grown HG1.out (fun q => by have := (Own.block HO3.out q.symm).1; omega) (fun q => by have := (Own.block HO3.out q.symm).1; omega)
              go_roundw
              case rel => exact ⟨ds ++ [y], a ++ e, HD2.out, by rw [HL.out]; exact HO1.out, HGN.out, Below.grown HS4.out HG1.out HS4.out.size (fun j hj => Nat.le_trans (by omega) (Own.block HO3.out hj).1), HN2.out⟩
              case measure => rw [HGN.out.left, HG.out.left]; simp
          · have HE : Hid (fold l = ([], 9)) := by
              unfold Hid fold
              rw [if_neg h4, if_pos HE0.out, if_neg (fun q => hok (q y (HP.out.mem_iff.1 (HD.out.mem_iff.2 (by simp)))))]
            have hdk : decide (okN y.n) = false := by simp [hok]
            rw [hdk] at HWI
            clear hok hdk
            go_wp2_with fail
            refine (HWI.out _).mono ?_
            rintro r w' ⟨rfl, rfl⟩
            go_wp2_with fail
            go_ret2
            exact ⟨.slice none 0 0, by rw [HE.out]; rfl, by rw [HE.out]; exact Own.nil _ _ _ _ _, HS3.out.alloc _⟩
end Go.Proofs.Ytjmnncggjgmfdaa
