/- The given arguments of the join's laws, opened: a cell, a slice of cells. -/
import Derived.Test.YtfoklfifgmacfaaOpen
import Derived.Test.YtfoklfifgmacfaaK1
import Derived.OpenShut
namespace Go.Proofs.Ytfoklfifgmacfaa
open Go.RowKit Go.ChangeShapes Go.WideShapes Go.Deep
section
variable {H : Type} {enc : TypeId × Value → H} {w : World} {base : Nat} {spare : Nat → Bool} {held : Bool}
theorem struct_field {P : Program} {t T : TypeId} {fs : Array Field} {f : Field} {fuel j o k : Nat} {cs : List Value} {x : DataW H × List MemPlace} (ht : P.underlying t = some (.struct fs)) (h : DataW.trod enc P w base spare held fuel t cs = some x)
    (hj : fs[j]? = some f) (ho : f.offset = o) (hT : f.type = T) (hk : P.cellsOf T = k) : ∃ n y, DataW.trod enc P w base spare held n T ((cs.drop o).take k) = some y := by
  obtain ⟨xs, n, _, _, _, hx, hf⟩ := DataW.trod_struct ht h
  have h1 := hf j f hj
  rw [ho, hT, hk] at h1
  have hlt : j < xs.length := by rw [hx]; exact (Array.getElem?_eq_some_iff.1 hj).1
  rw [List.getElem?_eq_getElem hlt] at h1
  exact ⟨n, _, h1⟩
theorem struct_len {P : Program} {t : TypeId} {fs : Array Field} {fuel : Nat} {cs : List Value} {x : DataW H × List MemPlace} (ht : P.underlying t = some (.struct fs)) (h : DataW.trod enc P w base spare held fuel t cs = some x) : cs.length = P.cellsOf t := by
  obtain ⟨xs, n, _, _, hl, _⟩ := DataW.trod_struct ht h
  exact hl
theorem int_cell {P : Program} {t : TypeId} {k : IntKind} {fuel : Nat} {v : Value} {x : DataW H × List MemPlace} (ht : P.underlying t = some (.int k)) (h : DataW.trod enc P w base spare held fuel t [v] = some x) : ∃ z : Int, v = .int k z := by
  obtain ⟨z, e, _, _⟩ := DataW.trod_int ht h
  exact ⟨z, by simpa using e⟩
theorem st_cells {fuel : Nat} {cs : List Value} {x : DataW H × List MemPlace} (h : DataW.trod enc Try.prog w base spare held fuel 23 cs = some x) : ∃ a b : Int, cs = [.int .i64 a, .int .i64 b] := by
  have hl : cs.length = 2 := (struct_len Try.underlying23 h).trans (by kernel_rfl)
  obtain ⟨_, _, h0⟩ := struct_field (j := 0) Try.underlying23 h rfl rfl rfl (show Try.prog.cellsOf 3 = 1 by kernel_rfl)
  obtain ⟨_, _, h1⟩ := struct_field (j := 1) Try.underlying23 h rfl rfl rfl (show Try.prog.cellsOf 3 = 1 by kernel_rfl)
  match cs, hl with
  | [v0, v1], _ =>
    obtain ⟨a, rfl⟩ := int_cell Try.underlying3 h0
    obtain ⟨b, rfl⟩ := int_cell Try.underlying3 h1
    exact ⟨a, b, rfl⟩
theorem vec_cells {fuel : Nat} {cs : List Value} {x : DataW H × List MemPlace} (h : DataW.trod enc Try.prog w base spare held fuel 25 cs = some x) : ∃ a b : Int, cs = [.int .i64 a, .int .i64 b] := by
  obtain ⟨xs, m, _, _, hl, hx, hf⟩ := DataW.trod_array Try.underlying25 h
  rw [show Try.prog.cellsOf 25 = 2 by kernel_rfl] at hl
  rw [show Try.prog.cellsOf 3 = 1 by kernel_rfl] at hf
  match cs, hl with
  | [v0, v1], _ =>
    have h0 := hf 0 (by omega)
    have h1 := hf 1 (by omega)
    rw [List.getElem?_eq_getElem (by omega)] at h0 h1
    obtain ⟨a, rfl⟩ := int_cell Try.underlying3 h0
    obtain ⟨b, rfl⟩ := int_cell Try.underlying3 h1
    exact ⟨a, b, rfl⟩
theorem cell_cells {fuel : Nat} {cs : List Value} {x : DataW H × List MemPlace} (h : DataW.trod enc Try.prog w base spare held fuel 27 cs = some x) : ∃ c : C, cs = c.cs := by
  have hl : cs.length = 8 := (struct_len Try.underlying27 h).trans (by kernel_rfl)
  obtain ⟨_, _, h0⟩ := struct_field (j := 0) Try.underlying27 h rfl rfl rfl (show Try.prog.cellsOf 23 = 2 by kernel_rfl)
  obtain ⟨_, _, h1⟩ := struct_field (j := 1) Try.underlying27 h rfl rfl rfl (show Try.prog.cellsOf 25 = 2 by kernel_rfl)
  obtain ⟨_, _, h2⟩ := struct_field (j := 2) Try.underlying27 h rfl rfl rfl (show Try.prog.cellsOf 4 = 1 by kernel_rfl)
  obtain ⟨_, _, h3⟩ := struct_field (j := 3) Try.underlying27 h rfl rfl rfl (show Try.prog.cellsOf 9 = 1 by kernel_rfl)
  obtain ⟨_, _, h4⟩ := struct_field (j := 4) Try.underlying27 h rfl rfl rfl (show Try.prog.cellsOf 25 = 2 by kernel_rfl)
  match cs, hl with
  | [v0, v1, v2, v3, v4, v5, v6, v7], _ =>
    obtain ⟨n, s, e0⟩ := st_cells h0
    obtain ⟨a, b, e1⟩ := vec_cells h1
    obtain ⟨g, e2, _⟩ := DataW.trod_bool Try.underlying4 h2
    obtain ⟨t, e3, _⟩ := DataW.trod_string Try.underlying9 h3
    obtain ⟨p, q, e4⟩ := vec_cells h4
    have e0' : [v0, v1] = [Value.int .i64 n, Value.int .i64 s] := e0
    have e1' : [v2, v3] = [Value.int .i64 a, Value.int .i64 b] := e1
    have e2' : [v4] = [Value.bool g] := e2
    have e3' : [v5] = [Value.string t] := e3
    have e4' : [v6, v7] = [Value.int .i64 p, Value.int .i64 q] := e4
    simp only [List.cons.injEq, and_true] at e0' e1' e2' e3' e4'
    obtain ⟨rfl, rfl⟩ := e0'
    obtain ⟨rfl, rfl⟩ := e1'
    subst e2' e3'
    obtain ⟨rfl, rfl⟩ := e4'
    exact ⟨⟨n, s, a, b, g, t, p, q⟩, rfl⟩
theorem cell_value {r : Reach} {b0 : Nat} {v : Value} {d : DataW H} {p : List MemPlace} (hv : Value.okWide Try.prog w r b0 27 v) (h : DataW.Trod enc Try.prog w base spare held 27 v d p) :
    ∃ n s v0 v1 g t d0 d1, v = .agg #[.int .i64 n, .int .i64 s, .int .i64 v0, .int .i64 v1, .bool g, .string t, .int .i64 d0, .int .i64 d1] := by
  obtain ⟨cs, rfl, _⟩ := okWide_struct Try.underlying27 hv
  obtain ⟨fuel, hf⟩ := h
  obtain ⟨c, e⟩ := cell_cells hf
  obtain ⟨n, s, v0, v1, g, t, d0, d1⟩ := c
  exact ⟨n, s, v0, v1, g, t, d0, d1, by congr 1; exact Array.toList_inj.1 (by simpa [Value.cells, C.cs] using e)⟩
theorem cells_open {a : Option Addr} {n cap : Nat} {d : DataW H} {p : List MemPlace} (h : DataW.Trod enc Try.prog w base spare held 28 (.slice a n cap) d p) : n ≤ maxLen ∧ ∃ l : List C, n = l.length ∧ Cs w a l := by
  obtain ⟨fuel, hh⟩ := h
  rcases open_slice Try.underlying28 hh with ⟨h0, _⟩ | ⟨ad, len, cp, m, q, D, Pl, h0, _, hl, hcm, hm, _, hx⟩
  · simp only [Value.cells, List.cons.injEq, Value.slice.injEq] at h0
    obtain ⟨⟨rfl, rfl, rfl⟩, _⟩ := h0
    exact ⟨Nat.zero_le _, [], rfl, fun i x hi => by simp at hi⟩
  · simp only [Value.cells, List.cons.injEq, Value.slice.injEq] at h0
    obtain ⟨⟨rfl, rfl, rfl⟩, _⟩ := h0
    have hC : Try.prog.cellsOf 27 = 8 := by kernel_rfl
    rw [hC] at hx
    have key : ∀ i, ∃ c : C, i < n → ∃ b o, some ad = some (⟨b, o, none⟩ : Addr) ∧ w.cell? ⟨b, o + i * 8, none⟩ = some (.int .i64 c.n) ∧ w.cell? ⟨b, o + i * 8 + 1, none⟩ = some (.int .i64 c.s) ∧ w.cell? ⟨b, o + i * 8 + 2, none⟩ = some (.int .i64 c.v0) ∧
        w.cell? ⟨b, o + i * 8 + 3, none⟩ = some (.int .i64 c.v1) ∧ w.cell? ⟨b, o + i * 8 + 4, none⟩ = some (.bool c.gone) ∧ w.cell? ⟨b, o + i * 8 + 5, none⟩ = some (.string c.value) ∧ w.cell? ⟨b, o + i * 8 + 6, none⟩ = some (.int .i64 c.d0) ∧ w.cell? ⟨b, o + i * 8 + 7, none⟩ = some (.int .i64 c.d1) := by
      intro i
      by_cases hi : i < n
      · have him : i < m := by rw [hm]; split <;> omega
        obtain ⟨b, o, spot⟩ := ad
        have hsp : spot = none := by
          obtain ⟨cs0, hc0, _⟩ := hx 0 (by omega)
          obtain ⟨_, hlen0, hat0⟩ := World.cells?_some hc0
          have h0 := hat0 0 (by omega)
          rw [List.getElem?_eq_getElem (by omega)] at h0
          have hs := World.cell?_spot h0
          simpa [Addr.add] using hs
        subst hsp
        obtain ⟨cs, hc, htr⟩ := hx i him
        obtain ⟨_, hlen, hat⟩ := World.cells?_some hc
        obtain ⟨c, rfl⟩ := cell_cells htr
        have h0 := hat 0 (by omega)
        have h1 := hat 1 (by omega)
        have h2 := hat 2 (by omega)
        have h3 := hat 3 (by omega)
        have h4 := hat 4 (by omega)
        have h5 := hat 5 (by omega)
        have h6 := hat 6 (by omega)
        have h7 := hat 7 (by omega)
        rw [add_none, add_none] at h0 h1 h2 h3 h4 h5 h6 h7
        exact ⟨c, fun _ => ⟨b, o, rfl, h0, h1, h2, h3, h4, h5, h6, h7⟩⟩
      · exact ⟨C.zero, fun h => absurd h hi⟩
    refine ⟨by omega, (List.range n).map fun i => Classical.choose (key i), by simp, fun i x hx => ?_⟩
    rw [List.getElem?_map, Option.map_eq_some_iff] at hx
    obtain ⟨j, hj, rfl⟩ := hx
    obtain ⟨hj1, hj2⟩ := List.getElem?_eq_some_iff.1 hj
    have : j = i := by simpa using hj2.symm
    subst this
    exact Classical.choose_spec (key j) (by simpa using hj1)
end
end Go.Proofs.Ytfoklfifgmacfaa
