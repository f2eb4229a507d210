/- The given three cells, opened. -/
import Derived.Test.YtfoklfifgmacfaaL3
namespace Go.Proofs.Ytfoklfifgmacfaa
open Go.RowKit Go.ChangeShapes Go.WideShapes Go.Deep
section
variable {H : Type} {enc : TypeId × Value → H} {w : World} {base : Nat} {spare : Nat → Bool} {held : Bool}
theorem three_cells {fuel : Nat} {cs : List Value} {x : DataW H × List MemPlace} (h : DataW.trod enc Try.prog w base spare held fuel 35 cs = some x) : ∃ a b c : C, cs = a.cs ++ b.cs ++ c.cs := by
  have hl : cs.length = 24 := (struct_len Try.underlying35 h).trans (by kernel_rfl)
  obtain ⟨_, _, h0⟩ := struct_field (j := 0) Try.underlying35 h rfl rfl rfl (show Try.prog.cellsOf 27 = 8 by kernel_rfl)
  obtain ⟨_, _, h1⟩ := struct_field (j := 1) Try.underlying35 h rfl rfl rfl (show Try.prog.cellsOf 27 = 8 by kernel_rfl)
  obtain ⟨_, _, h2⟩ := struct_field (j := 2) Try.underlying35 h rfl rfl rfl (show Try.prog.cellsOf 27 = 8 by kernel_rfl)
  obtain ⟨a, e0⟩ := cell_cells h0
  obtain ⟨b, e1⟩ := cell_cells h1
  obtain ⟨c, e2⟩ := cell_cells h2
  have e0' : cs.take 8 = a.cs := e0
  have e1' : (cs.drop 8).take 8 = b.cs := e1
  have e2' : (cs.drop 16).take 8 = c.cs := e2
  refine ⟨a, b, c, ?_⟩
  rw [← e0', ← e1', ← e2']
  have h3 : (cs.drop 16).take 8 = cs.drop 16 := List.take_of_length_le (by simp; omega)
  rw [h3, List.append_assoc]
  have h4 : List.take 8 (cs.drop 8) ++ cs.drop 16 = cs.drop 8 := by
    have := List.take_append_drop 8 (cs.drop 8)
    rwa [List.drop_drop] at this
  rw [h4, List.take_append_drop]
theorem three_value {r : Reach} {b0 : Nat} {v : Value} {d : DataW H} {p : List MemPlace} (hv : Value.okWide Try.prog w r b0 35 v) (h : DataW.Trod enc Try.prog w base spare held 35 v d p) :
    ∃ a b c : C, v = .agg #[.int .i64 a.n, .int .i64 a.s, .int .i64 a.v0, .int .i64 a.v1, .bool a.gone, .string a.value, .int .i64 a.d0, .int .i64 a.d1, .int .i64 b.n, .int .i64 b.s, .int .i64 b.v0, .int .i64 b.v1, .bool b.gone, .string b.value, .int .i64 b.d0, .int .i64 b.d1, .int .i64 c.n, .int .i64 c.s, .int .i64 c.v0, .int .i64 c.v1, .bool c.gone, .string c.value, .int .i64 c.d0, .int .i64 c.d1] := by
  obtain ⟨cs, rfl, _⟩ := okWide_struct Try.underlying35 hv
  obtain ⟨fuel, hf⟩ := h
  obtain ⟨a, b, c, e⟩ := three_cells hf
  exact ⟨a, b, c, by congr 1; exact Array.toList_inj.1 (by simpa [Value.cells, C.cs] using e)⟩
end
end Go.Proofs.Ytfoklfifgmacfaa
