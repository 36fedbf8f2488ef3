/- Equality of times. -/
import Derived.Test.YtjmnncggjgmfdaaT6
import Derived.Test.YtjmnncggjgmfdaaWp3
import Derived.Laws.StructEq
namespace Go.Proofs.Ytjmnncggjgmfdaa
open Go.RowKit Ws
set_option linter.unusedVariables false
set_option linter.unusedSimpArgs false
theorem eqArr (d : Nat) (x y z x' y' z' : Int) (w : World) :
    (Op.equalIn (d + 2) 48 (.agg #[.int .u32 x, .int .u32 y, .int .u32 z]) (.agg #[.int .u32 x', .int .u32 y', .int .u32 z'])).run Try.prog w = .ok (x == x' && (y == y' && z == z')) w := by
  have hu := Try.underlying48
  have he := Try.underlying47
  unfold Op.equalIn
  simp only [Sem.run_bind, run_underlying hu, Result.andThen_ok]
  have hr : List.range' 0 3 = [0, 1, 2] := rfl
  have ha := Try.isAgg47
  have hz := Try.sizeOf47
  by_cases h1 : x = x' <;> by_cases h2 : y = y' <;> by_cases h3 : z = z' <;> simp [go_sem, hr, ha, hz, he, h1, h2, h3]
theorem neqArr (x y z x' y' z' : Int) (w : World) :
    (binOp .neq 48 (.agg #[.int .u32 x, .int .u32 y, .int .u32 z]) (.agg #[.int .u32 x', .int .u32 y', .int .u32 z'])).run Try.prog w = .ok (.bool (!(x == x' && (y == y' && z == z')))) w := by
  rw [run_neq_struct, show (10000 : Nat) = 9998 + 2 from rfl, eqArr]; rfl
theorem eqInT (d : Nat) (x y : Tm) (w : World) : (Op.equalIn (d + 3) 50 (vT x) (vT y)).run Try.prog w = .ok (decide (x = y)) w := by
  have u1 := Try.underlying47
  have u2 := Try.underlying3
  have ha := Try.isAgg47
  have hz := Try.sizeOf47
  have ha2 := Try.isAgg3
  have hz2 := Try.sizeOf3
  have ha3 := Try.isAgg48
  have hz3 := Try.sizeOf48
  have hS : Try.prog.underlying 50 = some (.struct (Try.prog.fieldsOf 50)) := by kernel_rfl
  have hp : Try.prog.stoodInHeld 50 = false := by kernel_rfl
  have hA := fun (x y z x' y' z' : Int) => eqArr d x y z x' y' z' w
  obtain ⟨e, d1, a, b, c⟩ := x
  obtain ⟨e', d', a', b', c'⟩ := y
  rw [show d + 3 = (d + 2) + 1 from rfl, run_equalIn_agg w (d + 2) 50 _ _ hS hp]
  simp only [Program.fieldsOf, Try.underlying50]
  go_simp
  by_cases h1 : e = e' <;> by_cases h2 : d1 = d' <;> by_cases h3 : a = a' <;> by_cases h4 : b = b' <;> by_cases h5 : c = c' <;> simp [h1, h2, h3, h4, h5]
theorem eqlT (x y : Tm) (w : World) : (binOp .eql 50 (vT x) (vT y)).run Try.prog w = .ok (.bool (decide (x = y))) w := by
  rw [run_eql_struct, show (10000 : Nat) = 9997 + 3 from rfl, eqInT]; rfl

abbrev encD (x : Dl) : List Value := [.int .i64 x.l, .int .u32 x.t.e, .int .i64 x.t.d, .int .u32 x.t.a, .int .u32 x.t.b, .int .u32 x.t.c, .int .i64 x.n]
abbrev vD (x : Dl) : Value := .agg #[.int .i64 x.l, .int .u32 x.t.e, .int .i64 x.t.d, .int .u32 x.t.a, .int .u32 x.t.b, .int .u32 x.t.c, .int .i64 x.n]
theorem eqInD (d : Nat) (x y : Dl) (w : World) : (Op.equalIn (d + 4) 69 (vD x) (vD y)).run Try.prog w = .ok (decide (x = y)) w := by
  have u1 := Try.underlying2
  have u2 := Try.underlying3
  have ha := Try.isAgg2
  have hz := Try.sizeOf2
  have ha2 := Try.isAgg3
  have hz2 := Try.sizeOf3
  have ha3 := Try.isAgg50
  have hz3 := Try.sizeOf50
  have hS : Try.prog.underlying 69 = some (.struct (Try.prog.fieldsOf 69)) := by kernel_rfl
  have hp : Try.prog.stoodInHeld 69 = false := by kernel_rfl
  have u3 := Try.underlying47
  have ha4 := Try.isAgg47
  have hz4 := Try.sizeOf47
  have ha5 := Try.isAgg48
  have hz5 := Try.sizeOf48
  have hA := fun (x y z x' y' z' : Int) => eqArr d x y z x' y' z' w
  obtain ⟨l, ⟨e, d1, a, b, c⟩, n⟩ := x
  obtain ⟨l', ⟨e', d', a', b', c'⟩, n'⟩ := y
  rw [show d + 4 = (d + 3) + 1 from rfl, run_equalIn_agg w (d + 3) 69 _ _ hS hp]
  simp only [Program.fieldsOf, Try.underlying69]
  go_simp
  by_cases h1 : l = l'
  · by_cases h2 : e = e'
    · by_cases h3 : d1 = d'
      · by_cases h4 : a = a'
        · by_cases h5 : b = b'
          · by_cases h6 : c = c' <;> by_cases h7 : n = n' <;> simp [h1, h2, h3, h4, h5, h6, h7]
          · simp [h1, h2, h3, h4, h5]
        · simp [h1, h2, h3, h4]
      · simp [h1, h2, h3]
    · simp [h1, h2]
  · simp [h1]
theorem eqlD (x y : Dl) (w : World) : (binOp .eql 69 (vD x) (vD y)).run Try.prog w = .ok (.bool (decide (x = y))) w := by
  rw [run_eql_struct, show (10000 : Nat) = 9996 + 4 from rfl, eqInD]; rfl
theorem neqlD (x y : Dl) (w : World) : (binOp .neq 69 (vD x) (vD y)).run Try.prog w = .ok (.bool (!decide (x = y))) w := by
  rw [run_neq_struct, show (10000 : Nat) = 9996 + 4 from rfl, eqInD]; rfl
end Go.Proofs.Ytjmnncggjgmfdaa
