/- Counts, read. -/
import Derived.Test.YtjmnncggjgmfdaaV5
namespace Go.Proofs.Ytjmnncggjgmfdaa
open Go.RowKit Ws
set_option linter.unusedVariables false
set_option linter.unusedSimpArgs false

theorem intIf_len (s : Rs) (c : Prop) [Decidable c] (m : Int) : (s.intIf c m).2.rest.length ≤ s.rest.length := by
  unfold Rs.intIf
  split
  · exact int_len s m
  · exact Nat.le_refl _
theorem intIf_bd (s : Rs) (c : Prop) [Decidable c] (m : Int) (hm : 0 ≤ m) : 0 ≤ (s.intIf c m).1 ∧ (s.intIf c m).1 ≤ m := by
  unfold Rs.intIf
  split
  · exact int_bd s m hm
  · exact ⟨Int.le_refl _, hm⟩
theorem readT_len (s : Rs) : (readT s).2.rest.length ≤ s.rest.length := by
  unfold readT
  simp only []
  have h1 := int_len s 3
  have h2 := int_len (s.int 3).2 MC
  have h3 := intIf_len ((s.int 3).2.int MC).2 (0 < (s.int 3).1) MC
  have h4 := intIf_len (((s.int 3).2.int MC).2.intIf (0 < (s.int 3).1) MC).2 (1 < (s.int 3).1) MC
  have h5 := intIf_len ((((s.int 3).2.int MC).2.intIf (0 < (s.int 3).1) MC).2.intIf (1 < (s.int 3).1) MC).2 (2 < (s.int 3).1) MC
  split <;> simp only [] <;> omega
theorem zeroT_ok : Tm.zero.Ok := by constructor <;> decide
theorem readT_ok (s : Rs) : (readT s).1.Ok := by
  unfold readT
  simp only []
  have hM : MC = 1048576 := rfl
  have h1 := int_bd s 3 (by decide)
  have h2 := int_bd (s.int 3).2 MC (by decide)
  have h3 := intIf_bd ((s.int 3).2.int MC).2 (0 < (s.int 3).1) MC (by decide)
  have h4 := intIf_bd (((s.int 3).2.int MC).2.intIf (0 < (s.int 3).1) MC).2 (1 < (s.int 3).1) MC (by decide)
  have h5 := intIf_bd ((((s.int 3).2.int MC).2.intIf (0 < (s.int 3).1) MC).2.intIf (1 < (s.int 3).1) MC).2 (2 < (s.int 3).1) MC (by decide)
  split
  · constructor <;> simp only [] <;> omega
  · exact zeroT_ok
theorem unzig_bd (v : Nat) (h : v < 2 ^ 64) : -9223372036854775808 ≤ unzig v ∧ unzig v ≤ 9223372036854775807 := by
  have e : (2:Nat) ^ 64 = 18446744073709551616 := rfl
  unfold unzig
  split <;> omega
theorem readD_ok (s : Rs) : (readD s).1.Ok := by
  unfold readD
  have h1 := int_bd s 1000 (by decide)
  have h2 := unzig_bd _ (num_lt (readT (s.int 1000).2).2)
  exact ⟨readT_ok _, by simp only []; omega, by simp only []; omega, h2.1, h2.2⟩
theorem signed_len (s : Rs) : s.signed.2.rest.length ≤ s.rest.length := num_len s
theorem readD_len (s : Rs) : (readD s).2.rest.length ≤ s.rest.length := by
  unfold readD
  have h1 := int_len s 1000
  have h2 := readT_len (s.int 1000).2
  have h3 := signed_len (readT (s.int 1000).2).2
  simp only []
  omega
theorem readN_step (n i : Nat) (s : Rs) (hi : i < n) : readN (n - i) s = ((readD s).1 :: (readN (n - (i + 1)) (readD s).2).1, (readN (n - (i + 1)) (readD s).2).2) := by
  obtain ⟨k, rfl⟩ : ∃ k, n = i + (k + 1) := ⟨n - i - 1, by omega⟩
  rw [show i + (k + 1) - i = k + 1 by omega, show i + (k + 1) - (i + 1) = k by omega]
  rfl

/-- What reading counts comes to. -/
def ReadR (R : World → Nat → Rs → Prop) (g : Nat) (st : Rs) (w : World) (r : Ending) (w' : World) : Prop := ∃ v, r = .returned v ∧ Own w' w.heap.size 69 7 encD v (readC st).1 ∧ R w' g (readC st).2 ∧ Only w w' g
/-- A loop's standing: i counts read. -/
def ReadI (R : World → Nat → Rs → Prop) (g n : Nat) (s0 : Rs) (w : World) (i : Nat) (ds : List Dl) (s : Rs) (v : Value) (wr : World) : Prop :=
  ds.length = i ∧ readN n s0 = (ds ++ (readN (n - i) s).1, (readN (n - i) s).2) ∧ Own wr w.heap.size 69 7 encD v ds ∧ R wr g s ∧ s.rest.length ≤ 140737488351232 ∧ (∀ x ∈ ds, x.Ok) ∧ Only w wr g

theorem only_grown {a b c : World} {g : Nat} {row : Option Nat} (h : Only a b g) (hg : b.grownBy c row) (hr : ∀ j, row = some j → a.heap.size ≤ j) : Only a c g :=
  ⟨hg.os.trans h.os, hg.tape.trans h.tape, hg.output.trans h.output, Nat.le_trans h.size hg.size, fun i hi hne => (hg.block i (Nat.lt_of_lt_of_le hi h.size) (fun e => by have := hr i e.symm; omega)).trans (h.block i hi hne)⟩

set_option maxRecDepth 20000 in
set_option maxHeartbeats 4000000 in
theorem dread (hsort : SortOk) (g : Nat) (st : Rs) (w : World) (h : Rdr w g st) (hb : st.rest.length ≤ 140737488351232) : Calls Try.prog 12 #[.pointer (some ⟨g, 0, none⟩)] w (ReadR Rdr g st w) := by
  have hg := Bk.lt h
  have HSo := Lib.hid hsort
  have HI := Lib.hid (rInt g st 256 w h hb (by decide) (by decide))
  obtain ⟨m, s0, h0⟩ : ∃ m s0, st.int 256 = (m, s0) := ⟨_, _, rfl⟩
  have hm := int_bd st 256 (by decide)
  have hl0 := int_len st 256
  rw [h0] at HI hm hl0
  simp only at hm hl0
  obtain ⟨n, rfl⟩ := Int.eq_ofNat_of_zero_le hm.1
  have HE : Hid (readC st = if (readN n s0).2.err = 0 then (if right (readN n s0).1 then readN n s0 else ([], ⟨(readN n s0).2.rest, 6⟩)) else ([], (readN n s0).2)) := by
    unfold Hid readC
    rw [h0]
    simp only [Int.toNat_natCast]
  have hn : n ≤ 256 := by omega
  clear hsort h h0
  go_enter Try.func12, Try.ntmps12
  go_wp2_with fail
  refine HI.out.mono ?_
  rintro r W0 ⟨rfl, hr0, ho0⟩
  have H0 : Hid (ReadI Rdr g n s0 w 0 [] s0 (.slice none 0 0) W0) := ⟨rfl, rfl, Own.nil _ _ _ _ _, hr0, by omega, by intro x hx; (cases hx), ho0⟩
  clear hr0 ho0 HI
  go_wp2_with fail
  go_loopw [3, 7] (fun sv iv wr => ∃ (i : Nat) (ds : List Dl) (s : Rs), iv = .int .i64 i ∧ i ≤ n ∧ Hid (ReadI Rdr g n s0 w i ds s sv wr)) (fun _ iv _ => n - (intOf iv).toNat)
  case atStart => exact ⟨0, [], s0, rfl, by omega, H0⟩
  case round =>
    obtain ⟨i, ds, s, rfl, hi, HRI⟩ := hrel
    rcases Nat.lt_or_ge i n with hil | hil
    · have hi2 : (i : Int) < n := by omega
      obtain ⟨hdl, hrn, hown, hrd, hsl, hok, hon⟩ := HRI.out
      have HI1 := Lib.hid (rInt g s 1000 wr hrd hsl (by decide) (by decide))
      have l1 := int_len s 1000
      have b1 := int_bd s 1000 (by decide)
      have l2 := readT_len (s.int 1000).2
      obtain ⟨x, hx⟩ : ∃ x, (readD s).1 = x := ⟨_, rfl⟩
      obtain ⟨s', hs'⟩ : ∃ s', (readD s).2 = s' := ⟨_, rfl⟩
      have okx := readD_ok s
      have lx := readD_len s
      have hst := readN_step n i s hil
      rw [hx] at okx hst
      rw [hs'] at lx hst
      unfold readD at hx hs'
      simp only at hx hs'
      obtain ⟨lo, s1, h1⟩ : ∃ d s1, s.int 1000 = (d, s1) := ⟨_, _, rfl⟩
      rw [h1] at HI1 l1 b1 l2 hx hs'
      simp only at HI1 l1 b1 l2 hx hs'
      have HT1 := Lib.hid (fun W (hh : Rdr W g s1) => tread g s1 W hh (by omega))
      obtain ⟨t, s2, h2⟩ : ∃ t s2, readT s1 = (t, s2) := ⟨_, _, rfl⟩
      rw [h2] at HT1 l2 hx hs'
      simp only at HT1 l2 hx hs'
      have HG1 := Lib.hid (fun W (hh : Rdr W g s2) => rSigned g s2 W hh (by omega))
      obtain ⟨z, s3, h3⟩ : ∃ z s3, s2.signed = (z, s3) := ⟨_, _, rfl⟩
      rw [h3] at HG1 hx hs'
      simp only at HG1 hx hs'
      subst hs'
      have HX := Lib.hid hx
      have HI2 : Hid (∀ (v1 : Value) (w1 : World), Own w1 w.heap.size 69 7 encD v1 (ds ++ [x]) → Rdr w1 g s3 → Only w w1 g → ReadI Rdr g n s0 w (i + 1) (ds ++ [x]) s3 v1 w1) := by
        intro v1 w1 q1 q2 q3
        refine ⟨by simp [hdl], ?_, q1, q2, by omega, ?_, q3⟩
        · rw [hrn, hst]; simp
        · intro y hy
          rcases List.mem_append.1 hy with hy | hy
          · exact hok y hy
          · rw [List.mem_singleton.1 hy]; exact okx
      have hgr : g < wr.heap.size := Bk.lt hrd
      have HOn := Lib.hid hon
      have HOw := Lib.hid hown
      have hwz := hon.size
      clear hrn hown hrd hsl hok hon HRI okx lx hst h1 h2 h3 b1 hx
      obtain ⟨te, td, ta, tb, tc⟩ := t
      go_wp2_with fail
      refine HI1.out.mono ?_
      rintro r W1 ⟨rfl, hr1, ho1⟩
      have HR1 := Lib.hid hr1
      have HO1 := Lib.hid ho1
      have hz1 := ho1.size
      clear hr1 ho1
      go_wp2_with fail
      have c1 := Bk.new W1 69 #[.int .i64 lo, .int .u32 0, .int .i64 0, .int .u32 0, .int .u32 0, .int .u32 0, .int .i64 0]
      have o1 := (HO1.out).alloc (.cells #[.int .i64 lo, .int .u32 0, .int .i64 0, .int .u32 0, .int .u32 0, .int .u32 0, .int .i64 0] 69)
      refine (HT1.out _ (Bk.alloc HR1.out _)).mono ?_
      rintro r W2 ⟨rfl, hr2, ho2⟩
      have c2 := Bk.only c1 ho2 (by omega)
      have HR2 := Lib.hid hr2
      have HO2 := Lib.hid (o1.trans ho2)
      have hz2 := Bk.lt c2
      have hgl2 := Bk.lt hr2
      clear c1 o1 hr2 ho2 HR1 HO1
      have x0 : W2.cell? ⟨W1.heap.size, 0, none⟩ = some (.int .i64 lo) := Bk.cell c2 0 _ rfl
      have y0 : W2.frozen? ⟨W1.heap.size, 0, none⟩ = false := Bk.frozen c2 0
      have x1 : W2.cell? ⟨W1.heap.size, 1, none⟩ = some (.int .u32 0) := Bk.cell c2 1 _ rfl
      have y1 : W2.frozen? ⟨W1.heap.size, 1, none⟩ = false := Bk.frozen c2 1
      have x2 : W2.cell? ⟨W1.heap.size, 2, none⟩ = some (.int .i64 0) := Bk.cell c2 2 _ rfl
      have y2 : W2.frozen? ⟨W1.heap.size, 2, none⟩ = false := Bk.frozen c2 2
      have x3 : W2.cell? ⟨W1.heap.size, 3, none⟩ = some (.int .u32 0) := Bk.cell c2 3 _ rfl
      have y3 : W2.frozen? ⟨W1.heap.size, 3, none⟩ = false := Bk.frozen c2 3
      have x4 : W2.cell? ⟨W1.heap.size, 4, none⟩ = some (.int .u32 0) := Bk.cell c2 4 _ rfl
      have y4 : W2.frozen? ⟨W1.heap.size, 4, none⟩ = false := Bk.frozen c2 4
      have x5 : W2.cell? ⟨W1.heap.size, 5, none⟩ = some (.int .u32 0) := Bk.cell c2 5 _ rfl
      have y5 : W2.frozen? ⟨W1.heap.size, 5, none⟩ = false := Bk.frozen c2 5
      have x6 : W2.cell? ⟨W1.heap.size, 6, none⟩ = some (.int .i64 0) := Bk.cell c2 6 _ rfl
      have y6 : W2.frozen? ⟨W1.heap.size, 6, none⟩ = false := Bk.frozen c2 6
      have C2 := Lib.hid c2
      clear c2
      go_wp2_with fail
      obtain ⟨V, hV⟩ : ∃ V, (((((W2.setCell ⟨W1.heap.size, 1, none⟩ (.int .u32 te)).setCell ⟨W1.heap.size, 2, none⟩ (.int .i64 td)).setCell ⟨W1.heap.size, 3, none⟩ (.int .u32 ta)).setCell ⟨W1.heap.size, 4, none⟩ (.int .u32 tb)).setCell ⟨W1.heap.size, 5, none⟩ (.int .u32 tc)) = V := ⟨_, rfl⟩
      have cV : Bk V W1.heap.size 69 #[.int .i64 lo, .int .u32 te, .int .i64 td, .int .u32 ta, .int .u32 tb, .int .u32 tc, .int .i64 0] := by rw [← hV]; exact ((((C2.out.set 1 _).set 2 _).set 3 _).set 4 _).set 5 _
      have rV : Rdr V g s2 := by rw [← hV]; exact Bk.far (Bk.far (Bk.far (Bk.far (Bk.far HR2.out (by simp; omega) _) (by simp; omega) _) (by simp; omega) _) (by simp; omega) _) (by simp; omega) _
      have oV : Only wr V g := by rw [← hV]; exact ((((HO2.out.set (.inr (by simp; omega)) _).set (.inr (by simp; omega)) _).set (.inr (by simp; omega)) _).set (.inr (by simp; omega)) _).set (.inr (by simp; omega)) _
      rw [hV]
      clear hV x0 x1 x2 x3 x4 x5 x6 y0 y1 y2 y3 y4 y5 y6 C2 HR2 HO2
      have CV := Lib.hid cV
      have OV := Lib.hid oV
      refine (HG1.out _ rV).mono ?_
      rintro r W3 ⟨rfl, hr3, ho3⟩
      have c3 := Bk.only CV.out ho3 (by omega)
      have o3 := OV.out.trans ho3
      have HR3 := Lib.hid hr3
      have hz3 := Bk.lt c3
      clear cV oV rV CV OV hr3 ho3
      have x0 : W3.cell? ⟨W1.heap.size, 0, none⟩ = some (.int .i64 lo) := Bk.cell c3 0 _ rfl
      have y0 : W3.frozen? ⟨W1.heap.size, 0, none⟩ = false := Bk.frozen c3 0
      have x1 : W3.cell? ⟨W1.heap.size, 1, none⟩ = some (.int .u32 te) := Bk.cell c3 1 _ rfl
      have y1 : W3.frozen? ⟨W1.heap.size, 1, none⟩ = false := Bk.frozen c3 1
      have x2 : W3.cell? ⟨W1.heap.size, 2, none⟩ = some (.int .i64 td) := Bk.cell c3 2 _ rfl
      have y2 : W3.frozen? ⟨W1.heap.size, 2, none⟩ = false := Bk.frozen c3 2
      have x3 : W3.cell? ⟨W1.heap.size, 3, none⟩ = some (.int .u32 ta) := Bk.cell c3 3 _ rfl
      have y3 : W3.frozen? ⟨W1.heap.size, 3, none⟩ = false := Bk.frozen c3 3
      have x4 : W3.cell? ⟨W1.heap.size, 4, none⟩ = some (.int .u32 tb) := Bk.cell c3 4 _ rfl
      have y4 : W3.frozen? ⟨W1.heap.size, 4, none⟩ = false := Bk.frozen c3 4
      have x5 : W3.cell? ⟨W1.heap.size, 5, none⟩ = some (.int .u32 tc) := Bk.cell c3 5 _ rfl
      have y5 : W3.frozen? ⟨W1.heap.size, 5, none⟩ = false := Bk.frozen c3 5
      have x6 : W3.cell? ⟨W1.heap.size, 6, none⟩ = some (.int .i64 0) := Bk.cell c3 6 _ rfl
      have y6 : W3.frozen? ⟨W1.heap.size, 6, none⟩ = false := Bk.frozen c3 6
      have HR4 : Hid (Rdr (W3.setCell ⟨W1.heap.size, 6, none⟩ (.int .i64 z)) g s3) := Bk.far HR3.out (by simp; omega) _
      have HO4 : Hid (Only wr (W3.setCell ⟨W1.heap.size, 6, none⟩ (.int .i64 z)) g) := o3.set (.inr (by simp; omega)) _
      have HW4 : Hid (Own (W3.setCell ⟨W1.heap.size, 6, none⟩ (.int .i64 z)) w.heap.size 69 7 encD u3 ds) := HOw.out.only HO4.out hg
      have hs4 : w.heap.size ≤ (W3.setCell ⟨W1.heap.size, 6, none⟩ (.int .i64 z)).heap.size := by have := HO4.out.size; omega
      clear c3 o3 HR3
      go_wp2_with (at_builtin; refine app1 (W3.setCell ⟨W1.heap.size, 6, none⟩ (.int .i64 z)) w.heap.size rfl (.tmp 18) (.tmp 20) _ 69 _ 7 48 rfl Try.underlying22 infoD rfl (by decide) (by decide) encD (fun _ => rfl) (fun x u hu => by simp [encD] at hu; rcases hu with rfl | rfl | rfl | rfl | rfl | rfl | rfl <;> rfl) u3 ds x rfl (by show Value.slice (some ⟨W3.heap.size, 0, none⟩) 1 1 = _; simp) HW4.out hs4 (by omega) (by rw [← HX.out]) ?_; intro v1 w1 hown1 hg1 hat1; have HO1' := Lib.hid hown1; clear hown1; have HG1' := Lib.hid hg1; clear hg1 hat1)
      have HF : Hid (ReadI Rdr g n s0 w (i + 1) (ds ++ [x]) s3 v1 w1) := by
        refine HI2.out v1 w1 HO1'.out ?_ ?_
        · exact Bk.grown HR4.out HG1'.out (fun q => by have := (Own.block HW4.out q.symm).1; omega)
        · exact only_grown (HOn.out.trans HO4.out) HG1'.out (fun j hj => (Own.block HW4.out hj).1)
      go_roundw
      case rel => exact ⟨i + 1, ds ++ [x], s3, by go_num, by omega, HF⟩
      case measure => simp [intOf]; omega
    · obtain rfl : i = n := by omega
      have hi2 : ¬ ((i : Int) < i) := by omega
      obtain ⟨hdl, hrn, hown, hrd, hsl, hok, hon⟩ := HRI.out
      rw [Nat.sub_self] at hrn
      simp only [readN, List.append_nil] at hrn
      rw [hrn] at HE
      simp only at HE
      have HEr := Lib.hid (fun W (hh : Rdr W g s) => rErr g s W hh)
      have HR := Lib.hid hrd
      have HO := Lib.hid hown
      have HN := Lib.hid hon
      clear hrn hrd hon HRI
      obtain ⟨A8, c8, rfl, hc8⟩ := hown.rd.len
      have HRt := Lib.hid (right_any HSo.out _ ds wr hown.rd hok (by omega))
      clear hown
      rw [hdl] at HRt HO
      by_cases hz : s.err = 0
      · have z1 : (s.err == 0) = true := by simp [hz]
        have z2 : (s.err != 0) = false := by simp [hz]
        by_cases hr : right ds = true
        · have HE2 : Hid (readC st = (ds, s)) := by unfold Hid; rw [HE.out, if_pos hz, if_pos hr]
          rw [hr] at HRt
          clear hz hr
          go_wp2_with fail
          refine (HEr.out _ HR.out).mono ?_
          rintro r w1 ⟨rfl, rfl⟩
          go_wp2_with fail
          refine HRt.out.mono ?_
          rintro r W2 ⟨rfl, hs2⟩
          have HS2 := Lib.hid hs2
          have HR2 := Lib.hid (HR.out.same hs2)
          clear hs2
          go_wp2_with fail
          refine (HEr.out _ HR2.out).mono ?_
          rintro r w1 ⟨rfl, rfl⟩
          go_wp2_with fail
          go_ret
          exact ⟨_, rfl, by rw [HE2.out]; exact HO.out.same HS2.out, by rw [HE2.out]; exact HR2.out, HN.out.same HS2.out⟩
        · have HE2 : Hid (readC st = ([], ⟨s.rest, 6⟩)) := by unfold Hid; rw [HE.out, if_pos hz, if_neg hr]
          have hr : right ds = false := by simpa using hr
          have HFl := Lib.hid (fun W (hh : Rdr W g s) => rFail g s 6 W hh)
          have hf : s.fail 6 = ⟨s.rest, 6⟩ := by unfold Rs.fail; rw [if_pos hz]
          rw [hf] at HFl
          rw [hr] at HRt
          have HEr2 := Lib.hid (fun W (hh : Rdr W g ⟨s.rest, 6⟩) => rErr g ⟨s.rest, 6⟩ W hh)
          clear hz hr hf
          go_wp2_with fail
          refine (HEr.out _ HR.out).mono ?_
          rintro r w1 ⟨rfl, rfl⟩
          go_wp2_with fail
          refine HRt.out.mono ?_
          rintro r W2 ⟨rfl, hs2⟩
          have HS2 := Lib.hid hs2
          have HR2 := Lib.hid (HR.out.same hs2)
          clear hs2
          go_wp2_with fail
          refine (HFl.out _ HR2.out).mono ?_
          rintro r W3 ⟨rfl, hr3, ho3⟩
          have HR3 := Lib.hid hr3
          have HO3 := Lib.hid ho3
          clear hr3 ho3
          go_wp2_with fail
          refine (HEr2.out _ HR3.out).mono ?_
          rintro r w1 ⟨rfl, rfl⟩
          go_wp2_with fail
          go_ret
          exact ⟨.slice none 0 0, rfl, by rw [HE2.out]; exact Own.nil _ _ _ _ _, by rw [HE2.out]; exact HR3.out, (HN.out.same HS2.out).trans HO3.out⟩
      · have z1 : (s.err == 0) = false := by simp [hz]
        have z2 : (s.err != 0) = true := by simp [hz]
        have HE2 : Hid (readC st = ([], s)) := by unfold Hid; rw [HE.out, if_neg hz]
        clear hz
        go_wp2_with fail
        refine (HEr.out _ HR.out).mono ?_
        rintro r w1 ⟨rfl, rfl⟩
        go_wp2_with fail
        refine (HEr.out _ HR.out).mono ?_
        rintro r w1 ⟨rfl, rfl⟩
        go_wp2_with fail
        go_ret
        exact ⟨.slice none 0 0, rfl, by rw [HE2.out]; exact Own.nil _ _ _ _ _, by rw [HE2.out]; exact HR.out, HN.out⟩
end Go.Proofs.Ytjmnncggjgmfdaa
