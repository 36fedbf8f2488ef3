/- Two slices of counts, alike or not. -/
import Derived.Test.YtjmnncggjgmfdaaN1
namespace Go.Proofs.Ytjmnncggjgmfdaa
open Go.RowKit Ws
set_option linter.unusedVariables false
set_option linter.unusedSimpArgs false

theorem take_eq_succ {xs ys : List Dl} {i : Nat} {x y : Dl} (h : xs.take i = ys.take i) (hx : xs[i]? = some x) (hy : ys[i]? = some y) (he : x = y) : xs.take (i + 1) = ys.take (i + 1) := by
  rw [List.take_add_one, List.take_add_one, hx, hy, h, he]
theorem ne_of_at {xs ys : List Dl} {i : Nat} {x y : Dl} (hx : xs[i]? = some x) (hy : ys[i]? = some y) (he : x ≠ y) : xs ≠ ys := by
  rintro rfl
  rw [hx] at hy
  exact he (Option.some.inj hy)

set_option maxRecDepth 20000 in
set_option maxHeartbeats 2000000 in
theorem eqSl (v u : Value) (xs ys : List Dl) (w : World) (hv : Rd w 7 encD v xs) (hu : Rd w 7 encD u ys) (hx : xs.length ≤ 1000000) (hy : ys.length ≤ 1000000) : Calls Try.prog 67 #[v, u] w fun r w' => r = .returned (.bool (decide (xs = ys))) ∧ ∃ q, w' = w.drewN q := by
  have HV := Lib.hid hv
  have HU := Lib.hid hu
  obtain ⟨A, c, rfl, hc⟩ := hv.len
  obtain ⟨B, d, rfl, hd⟩ := hu.len
  clear hv hu
  by_cases hl : xs.length = ys.length
  · have hl1 : ((xs.length : Int) == (ys.length : Int)) = true := by simp [hl]
    have hl2 : ((xs.length : Int) != (ys.length : Int)) = false := by simp [hl]
    go_enter Try.func67, Try.ntmps67
    go_wp2_with fail
    go_loopw [13] (fun iv wr => ∃ i q : Nat, iv = .int .i64 i ∧ i ≤ xs.length ∧ Hid (xs.take i = ys.take i) ∧ wr = w.drewN q) (fun iv _ => xs.length - (intOf iv).toNat)
    case atStart => exact ⟨0, 0, rfl, by omega, rfl, rfl⟩
    case round =>
      obtain ⟨i, q, rfl, hi, HT, rfl⟩ := hrel
      rcases Nat.lt_or_ge i xs.length with hil | hil
      · obtain ⟨x, hx1⟩ : ∃ x, xs[i]? = some x := ⟨_, List.getElem?_eq_getElem hil⟩
        obtain ⟨y, hy1⟩ : ∃ y, ys[i]? = some y := ⟨_, List.getElem?_eq_getElem (by omega)⟩
        obtain ⟨b1, o1, hA, hab, hck⟩ := at7 HV.out (fun _ => rfl) (by decide) i x hx1
        obtain ⟨b2, o2, hB, hbb, hcm⟩ := at7 HU.out (fun _ => rfl) (by decide) i y hy1
        subst hA hB
        have k0 : w.cell? ⟨b1, o1 + i * 7, none⟩ = some (.int .i64 x.l) := hck 0 _ rfl
        have k1 : w.cell? ⟨b1, o1 + i * 7 + 1, none⟩ = some (.int .u32 x.t.e) := hck 1 _ rfl
        have k2 : w.cell? ⟨b1, o1 + i * 7 + 2, none⟩ = some (.int .i64 x.t.d) := hck 2 _ rfl
        have k3 : w.cell? ⟨b1, o1 + i * 7 + 3, none⟩ = some (.int .u32 x.t.a) := hck 3 _ rfl
        have k4 : w.cell? ⟨b1, o1 + i * 7 + 4, none⟩ = some (.int .u32 x.t.b) := hck 4 _ rfl
        have k5 : w.cell? ⟨b1, o1 + i * 7 + 5, none⟩ = some (.int .u32 x.t.c) := hck 5 _ rfl
        have k6 : w.cell? ⟨b1, o1 + i * 7 + 6, none⟩ = some (.int .i64 x.n) := hck 6 _ rfl
        have m0 : w.cell? ⟨b2, o2 + i * 7, none⟩ = some (.int .i64 y.l) := hcm 0 _ rfl
        have m1 : w.cell? ⟨b2, o2 + i * 7 + 1, none⟩ = some (.int .u32 y.t.e) := hcm 1 _ rfl
        have m2 : w.cell? ⟨b2, o2 + i * 7 + 2, none⟩ = some (.int .i64 y.t.d) := hcm 2 _ rfl
        have m3 : w.cell? ⟨b2, o2 + i * 7 + 3, none⟩ = some (.int .u32 y.t.a) := hcm 3 _ rfl
        have m4 : w.cell? ⟨b2, o2 + i * 7 + 4, none⟩ = some (.int .u32 y.t.b) := hcm 4 _ rfl
        have m5 : w.cell? ⟨b2, o2 + i * 7 + 5, none⟩ = some (.int .u32 y.t.c) := hcm 5 _ rfl
        have m6 : w.cell? ⟨b2, o2 + i * 7 + 6, none⟩ = some (.int .i64 y.n) := hcm 6 _ rfl
        clear hck hcm
        have hi2 : (i : Int) < xs.length := by omega
        have hi3 : (i : Int) < ys.length := by omega
        by_cases he : x = y
        · have hne : ∀ W, (binOp .neq 69 (vD x) (vD y)).run Try.prog W = .ok (.bool false) W := fun W => by rw [neqlD]; simp [he]
          have HT2 := Lib.hid (take_eq_succ HT.out hx1 hy1 he)
          clear he
          go_wp2_with fail
          go_quiet (fail)
          go_wp2_with fail
          go_roundw
          case rel => exact ⟨i + 1, _, by go_num, by omega, HT2.out, rfl⟩
          case measure => simp [intOf]; omega
        · have hne : ∀ W, (binOp .neq 69 (vD x) (vD y)).run Try.prog W = .ok (.bool true) W := fun W => by rw [neqlD]; simp [he]
          have HT2 := Lib.hid (ne_of_at hx1 hy1 he)
          clear he
          go_wp2_with fail
          go_quiet (fail)
          go_wp2_with fail
          go_ret
          exact ⟨ret_v (by simp [HT2.out]), _, World.drewN_drewN _ _ _⟩
      · obtain rfl : i = xs.length := by omega
        have hi2 : ¬ ((xs.length : Int) < xs.length) := by omega
        have HT2 : Hid (xs = ys) := by
          have := HT.out
          rw [List.take_length] at this
          rw [hl, List.take_length] at this
          exact this
        go_wp2_with fail
        go_ret
        exact ⟨ret_v (by simp [HT2.out]), q, rfl⟩
  · have hl1 : ((xs.length : Int) == (ys.length : Int)) = false := by simp; omega
    have hl2 : ((xs.length : Int) != (ys.length : Int)) = true := by simp; omega
    have HT2 : Hid (xs ≠ ys) := fun q => hl (by rw [q])
    go_enter Try.func67, Try.ntmps67
    go_wp2_with fail
    go_ret
    exact ⟨ret_v (by simp [HT2.out]), 0, rfl⟩

set_option maxRecDepth 20000 in
set_option maxHeartbeats 2000000 in
theorem sameR (v u : Value) (xs ys : List Dl) (w : World) (hv : Rd w 7 encD v xs) (hu : Rd w 7 encD u ys) (hx : xs.length ≤ 1000000) (hy : ys.length ≤ 1000000) : Calls Try.prog 10 #[v, u] w fun r w' => r = .returned (.bool (decide (xs = ys))) ∧ ∃ q, w' = w.drewN q := by
  have HV := Lib.hid hv
  have HU := Lib.hid hu
  obtain ⟨A, c, rfl, hc⟩ := hv.len
  obtain ⟨B, d, rfl, hd⟩ := hu.len
  clear hv hu
  by_cases hl : xs.length = ys.length
  · have hl1 : ((xs.length : Int) == (ys.length : Int)) = true := by simp [hl]
    have hl2 : ((xs.length : Int) != (ys.length : Int)) = false := by simp [hl]
    go_enter Try.func10, Try.ntmps10
    go_wp2_with fail
    go_loopw [5] (fun iv wr => ∃ i q : Nat, iv = .int .i64 i ∧ i ≤ xs.length ∧ Hid (xs.take i = ys.take i) ∧ wr = w.drewN q) (fun iv _ => xs.length - (intOf iv).toNat)
    case atStart => exact ⟨0, 0, rfl, by omega, rfl, rfl⟩
    case round =>
      obtain ⟨i, q, rfl, hi, HT, rfl⟩ := hrel
      rcases Nat.lt_or_ge i xs.length with hil | hil
      · obtain ⟨x, hx1⟩ : ∃ x, xs[i]? = some x := ⟨_, List.getElem?_eq_getElem hil⟩
        obtain ⟨y, hy1⟩ : ∃ y, ys[i]? = some y := ⟨_, List.getElem?_eq_getElem (by omega)⟩
        obtain ⟨b1, o1, hA, hab, hck⟩ := at7 HV.out (fun _ => rfl) (by decide) i x hx1
        obtain ⟨b2, o2, hB, hbb, hcm⟩ := at7 HU.out (fun _ => rfl) (by decide) i y hy1
        subst hA hB
        have k0 : w.cell? ⟨b1, o1 + i * 7, none⟩ = some (.int .i64 x.l) := hck 0 _ rfl
        have k1 : w.cell? ⟨b1, o1 + i * 7 + 1, none⟩ = some (.int .u32 x.t.e) := hck 1 _ rfl
        have k2 : w.cell? ⟨b1, o1 + i * 7 + 2, none⟩ = some (.int .i64 x.t.d) := hck 2 _ rfl
        have k3 : w.cell? ⟨b1, o1 + i * 7 + 3, none⟩ = some (.int .u32 x.t.a) := hck 3 _ rfl
        have k4 : w.cell? ⟨b1, o1 + i * 7 + 4, none⟩ = some (.int .u32 x.t.b) := hck 4 _ rfl
        have k5 : w.cell? ⟨b1, o1 + i * 7 + 5, none⟩ = some (.int .u32 x.t.c) := hck 5 _ rfl
        have k6 : w.cell? ⟨b1, o1 + i * 7 + 6, none⟩ = some (.int .i64 x.n) := hck 6 _ rfl
        have m0 : w.cell? ⟨b2, o2 + i * 7, none⟩ = some (.int .i64 y.l) := hcm 0 _ rfl
        have m1 : w.cell? ⟨b2, o2 + i * 7 + 1, none⟩ = some (.int .u32 y.t.e) := hcm 1 _ rfl
        have m2 : w.cell? ⟨b2, o2 + i * 7 + 2, none⟩ = some (.int .i64 y.t.d) := hcm 2 _ rfl
        have m3 : w.cell? ⟨b2, o2 + i * 7 + 3, none⟩ = some (.int .u32 y.t.a) := hcm 3 _ rfl
        have m4 : w.cell? ⟨b2, o2 + i * 7 + 4, none⟩ = some (.int .u32 y.t.b) := hcm 4 _ rfl
        have m5 : w.cell? ⟨b2, o2 + i * 7 + 5, none⟩ = some (.int .u32 y.t.c) := hcm 5 _ rfl
        have m6 : w.cell? ⟨b2, o2 + i * 7 + 6, none⟩ = some (.int .i64 y.n) := hcm 6 _ rfl
        clear hck hcm
        have hi2 : (i : Int) < xs.length := by omega
        have hi3 : (i : Int) < ys.length := by omega
        by_cases he : x = y
        · have hne : ∀ W, (binOp .neq 69 (vD x) (vD y)).run Try.prog W = .ok (.bool false) W := fun W => by rw [neqlD]; simp [he]
          have HT2 := Lib.hid (take_eq_succ HT.out hx1 hy1 he)
          clear he
          go_wp2_with fail
          go_quiet (fail)
          go_wp2_with fail
          go_roundw
          case rel => exact ⟨i + 1, _, by go_num, by omega, HT2.out, rfl⟩
          case measure => simp [intOf]; omega
        · have hne : ∀ W, (binOp .neq 69 (vD x) (vD y)).run Try.prog W = .ok (.bool true) W := fun W => by rw [neqlD]; simp [he]
          have HT2 := Lib.hid (ne_of_at hx1 hy1 he)
          clear he
          go_wp2_with fail
          go_quiet (fail)
          go_wp2_with fail
          go_ret
          exact ⟨ret_v (by simp [HT2.out]), _, World.drewN_drewN _ _ _⟩
      · obtain rfl : i = xs.length := by omega
        have hi2 : ¬ ((xs.length : Int) < xs.length) := by omega
        have HT2 : Hid (xs = ys) := by
          have := HT.out
          rw [List.take_length] at this
          rw [hl, List.take_length] at this
          exact this
        go_wp2_with fail
        go_ret
        exact ⟨ret_v (by simp [HT2.out]), q, rfl⟩
  · have hl1 : ((xs.length : Int) == (ys.length : Int)) = false := by simp; omega
    have hl2 : ((xs.length : Int) != (ys.length : Int)) = true := by simp; omega
    have HT2 : Hid (xs ≠ ys) := fun q => hl (by rw [q])
    go_enter Try.func10, Try.ntmps10
    go_wp2_with fail
    go_ret
    exact ⟨ret_v (by simp [HT2.out]), 0, rfl⟩
end Go.Proofs.Ytjmnncggjgmfdaa
