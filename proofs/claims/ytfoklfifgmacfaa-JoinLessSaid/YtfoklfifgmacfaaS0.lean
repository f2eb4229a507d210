/- Two structs compared: stamps, vectors, cells. -/
import Derived.Test.YtfoklfifgmacfaaModel
import Derived.ChangeKeysEq
namespace Go.Proofs.Ytfoklfifgmacfaa
open Go.RowKit
theorem cells3 : Try.prog.cellsOf 3 = 1 := by kernel_rfl
theorem info3 : ∃ i, Try.prog.info? 3 = some i := by
  cases h : Try.prog.info? 3 with
  | none => have := Try.underlying3; simp [Program.underlying, h] at this
  | some i => exact ⟨i, rfl⟩
theorem equalIn25 (d : Nat) (a b c e : Int) (w : World) : (Op.equalIn (d + 2) 25 (.agg #[.int .i64 a, .int .i64 b]) (.agg #[.int .i64 c, .int .i64 e])).run Try.prog w = .ok (decide (a = c ∧ b = e)) w := by
  obtain ⟨i, hi⟩ := info3
  rw [run_equalIn_array w (d + 1) _ _ Try.underlying25 hi, cells3]
  by_cases h1 : a = c <;> by_cases h2 : b = e
  all_goals simp [Op.eqItems, List.range, List.range.loop, go_sem, h1, h2, Try.underlying3]
theorem equalIn23 (d : Nat) (a b c e : Int) (w : World) : (Op.equalIn (d + 2) 23 (.agg #[.int .i64 a, .int .i64 b]) (.agg #[.int .i64 c, .int .i64 e])).run Try.prog w = .ok (decide (a = c ∧ b = e)) w := by
  by_cases h1 : a = c <;> by_cases h2 : b = e <;> go_simp
theorem equalIn27 (d : Nat) (x y : C) (w : World) : (Op.equalIn (d + 3) 27 (.agg #[.int .i64 x.n, .int .i64 x.s, .int .i64 x.v0, .int .i64 x.v1, .bool x.gone, .string x.value, .int .i64 x.d0, .int .i64 x.d1]) (.agg #[.int .i64 y.n, .int .i64 y.s, .int .i64 y.v0, .int .i64 y.v1, .bool y.gone, .string y.value, .int .i64 y.d0, .int .i64 y.d1])).run Try.prog w = .ok (decide (x = y)) w := by
  have h1 := fun a b c e => equalIn23 d a b c e w
  have h2 := fun a b c e => equalIn25 d a b c e w
  have h3 : (x.value.toList == y.value.toList) = decide (x.value = y.value) := Bool.eq_iff_iff.2 ⟨fun h => decide_eq_true (bytes_ext (by simpa using h)), fun h => by simp [of_decide_eq_true h]⟩
  have h : decide (x = y) = (decide (x.n = y.n ∧ x.s = y.s) && (decide (x.v0 = y.v0 ∧ x.v1 = y.v1) && ((x.gone == y.gone) && ((x.value.toList == y.value.toList) && decide (x.d0 = y.d0 ∧ x.d1 = y.d1))))) := by
    rw [h3]
    obtain ⟨n, s, v0, v1, g, t, d0, d1⟩ := x
    obtain ⟨n', s', v0', v1', g', t', d0', d1'⟩ := y
    refine Bool.eq_iff_iff.2 ?_
    simp only [decide_eq_true_eq, C.mk.injEq, Bool.and_eq_true, beq_iff_eq]
    exact ⟨fun ⟨a, b, c, d, e, f, g, h⟩ => ⟨⟨a, b⟩, ⟨c, d⟩, e, f, ⟨g, h⟩⟩, fun ⟨⟨a, b⟩, ⟨c, d⟩, e, f, ⟨g, h⟩⟩ => ⟨a, b, c, d, e, f, g, h⟩⟩
  rw [h]
  clear h h3
  go_simp
  by_cases g1 : x.n = y.n <;> by_cases g2 : x.s = y.s <;> by_cases g3 : x.v0 = y.v0 <;> by_cases g4 : x.v1 = y.v1 <;> by_cases g5 : x.gone = y.gone <;> by_cases g6 : x.value.toList = y.value.toList <;> by_cases g7 : x.d0 = y.d0 <;> by_cases g8 : x.d1 = y.d1 <;> simp [g1, g2, g3, g4, g5, g6, g7, g8]
end Go.Proofs.Ytfoklfifgmacfaa
