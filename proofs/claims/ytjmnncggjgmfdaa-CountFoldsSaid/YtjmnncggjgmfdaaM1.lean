/- A map of counts by place and time: what a look-up, a store, a round of a range does. -/
import Derived.Test.YtjmnncggjgmfdaaV2
import Derived.Test.YtjmnncggjgmfdaaWp4
import Derived.DeepKeys3
import Derived.WideKeyEntry
import Derived.Maps.RangeRun
namespace Go.Proofs.Ytjmnncggjgmfdaa
open Go.RowKit Ws
set_option linter.unusedVariables false
set_option linter.unusedSimpArgs false

abbrev vK (x : Dl) : Value := .agg #[.int .i64 x.l, .int .u32 x.t.e, .int .i64 x.t.d, .int .u32 x.t.a, .int .u32 x.t.b, .int .u32 x.t.c]
theorem kWide : (match Try.prog.underlying 72 with | some (.array _ _) | some (.struct _) => true | _ => false) = true := by kernel_rfl
theorem kAt : Try.prog.keyTypeAt 6 72 = true := by kernel_rfl
theorem kTiled : Try.prog.tiled 6 72 = true := by kernel_rfl
set_option maxRecDepth 100000 in
theorem kLaw : WideMaps.KeyLaw Try.prog 72 := deep_law (m := 6) (by omega) kAt kTiled kWide
theorem kType : Try.prog.keyType 72 = true := by kernel_rfl
theorem kSize : ∃ m, Try.prog.types.size + 1 = m + 6 := by
  have h : decide (5 ≤ Try.prog.types.size) = true := by kernel_rfl
  generalize Try.prog.types.size = n at h ⊢
  have h := of_decide_eq_true h
  exact ⟨n - 5, by omega⟩
theorem vK_key {x y : Dl} : vK x = vK y ↔ x.key = y.key := by
  obtain ⟨l, ⟨e, d, a, b, c⟩, n⟩ := x
  obtain ⟨l', ⟨e', d', a', b', c'⟩, n'⟩ := y
  simp [vK, Dl.key]

theorem litInt (m : Nat) (x : Int) (h0 : -9223372036854775808 ≤ x) (h1 : x ≤ 9223372036854775807) : Try.prog.keyLits (m + 1) 3 [.int .i64 x] = some [.int .i64 x] := by
  have hu : Try.prog.underlying 3 = some (.int .i64) := by kernel_rfl
  have hw : (Lit.int .i64 x).wf = true := by simp [Lit.wf, IntKind.min, IntKind.max, IntKind.signed, IntKind.bits]; omega
  simp [Program.keyLits, hu, hw]
theorem lit32 (m : Nat) (x : Int) (h0 : 0 ≤ x) (h1 : x ≤ 4294967295) : Try.prog.keyLits (m + 1) 47 [.int .u32 x] = some [.int .u32 x] := by
  have hu : Try.prog.underlying 47 = some (.int .u32) := by kernel_rfl
  have hw : (Lit.int .u32 x).wf = true := by simp [Lit.wf, IntKind.min, IntKind.max, IntKind.signed, IntKind.bits]; omega
  simp [Program.keyLits, hu, hw]
theorem litA (m : Nat) (a b c : Int) (a0 : 0 ≤ a) (a1 : a ≤ 4294967295) (b0 : 0 ≤ b) (b1 : b ≤ 4294967295) (c0 : 0 ≤ c) (c1 : c ≤ 4294967295) :
    Try.prog.keyLits (m + 2) 48 [.int .u32 a, .int .u32 b, .int .u32 c] = some [.int .u32 a, .int .u32 b, .int .u32 c] := by
  have hu : Try.prog.underlying 48 = some (.array 3 47) := by kernel_rfl
  have h3 : Try.prog.cellsOf 48 = 3 := by kernel_rfl
  have h1 : Try.prog.cellsOf 47 = 1 := by kernel_rfl
  have r3 : List.range 3 = [0, 1, 2] := rfl
  unfold Program.keyLits
  rw [hu]
  simp [h3, h1, r3, lit32 m _ a0 a1, lit32 m _ b0 b1, lit32 m _ c0 c1]
theorem litT (m : Nat) (t : Tm) (ok : t.Ok) : ∃ L, Try.prog.keyLits (m + 3) 50 (encT t) = some L := by
  have hu : Try.prog.underlying 50 = some (.struct (Try.prog.fieldsOf 50)) := by kernel_rfl
  have hf : (Try.prog.fieldsOf 50).toList.map (fun f => (f.type, f.offset)) = [(47, 0), (3, 1), (48, 2)] := by kernel_rfl
  have hn : (Try.prog.fieldsOf 50).all (·.name != "_") = true := by kernel_rfl
  generalize Try.prog.fieldsOf 50 = fs at hu hf hn
  have h5 : Try.prog.cellsOf 50 = 5 := by kernel_rfl
  have h3 : Try.prog.cellsOf 48 = 3 := by kernel_rfl
  have h1 : Try.prog.cellsOf 47 = 1 := by kernel_rfl
  have hi : Try.prog.cellsOf 3 = 1 := by kernel_rfl
  unfold Program.keyLits
  rw [hu]
  have e : (fs.toList.mapM fun f => Try.prog.keyLits (m + 2) f.type (((encT t).drop f.offset).take (Try.prog.cellsOf f.type))) = ((fs.toList.map (fun f => (f.type, f.offset))).mapM fun p => Try.prog.keyLits (m + 2) p.1 (((encT t).drop p.2).take (Try.prog.cellsOf p.1))) := by simp only [List.mapM_map, Function.comp_def]
  simp only [h5, hn, and_true]
  rw [if_pos (show (encT t).length = 5 from rfl), e, hf]
  simp [encT, h3, h1, hi, litInt (m + 1) t.d ok.d0 ok.d1, lit32 (m + 1) t.e ok.e0 ok.e1, litA m _ _ _ ok.a0 ok.a1 ok.b0 ok.b1 ok.c0 ok.c1]
/-- A key that the language knows. -/
structure KOk (x : Dl) : Prop where
  t : x.t.Ok
  l0 : -9223372036854775808 ≤ x.l
  l1 : x.l ≤ 9223372036854775807
theorem litK (m : Nat) (x : Dl) (ok : KOk x) : ∃ L, Try.prog.keyLits (m + 4) 72 [.int .i64 x.l, .int .u32 x.t.e, .int .i64 x.t.d, .int .u32 x.t.a, .int .u32 x.t.b, .int .u32 x.t.c] = some L := by
  have hu : Try.prog.underlying 72 = some (.struct (Try.prog.fieldsOf 72)) := by kernel_rfl
  have hf : (Try.prog.fieldsOf 72).toList.map (fun f => (f.type, f.offset)) = [(3, 0), (50, 1)] := by kernel_rfl
  have hn : (Try.prog.fieldsOf 72).all (·.name != "_") = true := by kernel_rfl
  generalize Try.prog.fieldsOf 72 = fs at hu hf hn
  have h6 : Try.prog.cellsOf 72 = 6 := by kernel_rfl
  have h5 : Try.prog.cellsOf 50 = 5 := by kernel_rfl
  have hi : Try.prog.cellsOf 3 = 1 := by kernel_rfl
  obtain ⟨L, hL⟩ := litT m x.t ok.t
  unfold Program.keyLits
  rw [hu]
  have e : ∀ cs : List Value, (fs.toList.mapM fun f => Try.prog.keyLits (m + 3) f.type ((cs.drop f.offset).take (Try.prog.cellsOf f.type))) = ((fs.toList.map (fun f => (f.type, f.offset))).mapM fun p => Try.prog.keyLits (m + 3) p.1 ((cs.drop p.2).take (Try.prog.cellsOf p.1))) := fun cs => by simp only [List.mapM_map, Function.comp_def]
  simp only [h6, hn, and_true]
  rw [if_pos (show ([.int .i64 x.l, .int .u32 x.t.e, .int .i64 x.t.d, .int .u32 x.t.a, .int .u32 x.t.b, .int .u32 x.t.c] : List Value).length = 6 from rfl), e, hf]
  simp only [encT] at hL
  simp [h5, hi, litInt (m + 2) x.l ok.l0 ok.l1, hL]
theorem keyK (x : Dl) (ok : KOk x) : ∃ l, keyOf Try.prog 72 (vK x) = some l := by
  have hu : Try.prog.underlying 72 = some (.struct (Try.prog.fieldsOf 72)) := by kernel_rfl
  generalize Try.prog.fieldsOf 72 = fs at hu
  have h6 : Try.prog.cellsOf 72 = 6 := by kernel_rfl
  obtain ⟨m, hm⟩ := kSize
  obtain ⟨L, hL⟩ := litK (m + 2) x ok
  have hfm : (vK x).formed Try.prog 72 = true := by simp [Value.formed, hu, h6]
  unfold keyOf
  rw [hu]
  simp only [kType, hfm, hm, Bool.and_true, if_true]
  exact ⟨_, by
    show Option.map _ (Try.prog.keyLits (m + 6) 72 [.int .i64 x.l, .int .u32 x.t.e, .int .i64 x.t.d, .int .u32 x.t.a, .int .u32 x.t.b, .int .u32 x.t.c]) = _
    rw [hL]
    rfl⟩
end Go.Proofs.Ytjmnncggjgmfdaa
