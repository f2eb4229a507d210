/- The given arguments of the clock's laws, opened: a call (four numbers), a slice of calls, a stamp. -/
import Derived.Test.YtcadamdlfelocaaOpen
import Derived.Test.YtcadamdlfelocaaL1
namespace Go.Proofs.Ytcadamdlfelocaa
open Go.RowKit Go.ChangeShapes Go.WideShapes Go.Deep
section
variable {H : Type} {enc : TypeId × Value → H} {w : World} {base : Nat} {spare : Nat → Bool} {held : Bool}
theorem struct_field {P : Program} {t T : TypeId} {fs : Array Field} {f : Field} {fuel j o k : Nat} {cs : List Value} {x : DataW H × List MemPlace} (ht : P.underlying t = some (.struct fs)) (h : DataW.trod enc P w base spare held fuel t cs = some x)
    (hj : fs[j]? = some f) (ho : f.offset = o) (hT : f.type = T) (hk : P.cellsOf T = k) : ∃ n y, DataW.trod enc P w base spare held n T ((cs.drop o).take k) = some y := by
  obtain ⟨xs, n, _, _, _, hx, hf⟩ := DataW.trod_struct ht h
  have h1 := hf j f hj
  rw [ho, hT, hk] at h1
  have hlt : j < xs.length := by rw [hx]; exact (Array.getElem?_eq_some_iff.1 hj).1
  rw [List.getElem?_eq_getElem hlt] at h1
  exact ⟨n, _, h1⟩
theorem struct_len {P : Program} {t : TypeId} {fs : Array Field} {fuel : Nat} {cs : List Value} {x : DataW H × List MemPlace} (ht : P.underlying t = some (.struct fs)) (h : DataW.trod enc P w base spare held fuel t cs = some x) : cs.length = P.cellsOf t := by
  obtain ⟨xs, n, _, _, hl, _⟩ := DataW.trod_struct ht h
  exact hl
theorem int_cell {P : Program} {t : TypeId} {k : IntKind} {fuel : Nat} {v : Value} {x : DataW H × List MemPlace} (ht : P.underlying t = some (.int k)) (h : DataW.trod enc P w base spare held fuel t [v] = some x) : ∃ z : Int, v = .int k z := by
  obtain ⟨z, e, _, _⟩ := DataW.trod_int ht h
  exact ⟨z, by simpa using e⟩
theorem st_cells {fuel : Nat} {cs : List Value} {x : DataW H × List MemPlace} (h : DataW.trod enc Try.prog w base spare held fuel 29 cs = some x) : ∃ a b : Int, cs = [.int .i64 a, .int .i64 b] := by
  have hl : cs.length = 2 := (struct_len Try.underlying29 h).trans (by kernel_rfl)
  obtain ⟨_, _, h0⟩ := struct_field (j := 0) Try.underlying29 h rfl rfl rfl (show Try.prog.cellsOf 3 = 1 by kernel_rfl)
  obtain ⟨_, _, h1⟩ := struct_field (j := 1) Try.underlying29 h rfl rfl rfl (show Try.prog.cellsOf 3 = 1 by kernel_rfl)
  match cs, hl with
  | [v0, v1], _ =>
    obtain ⟨a, rfl⟩ := int_cell Try.underlying3 h0
    obtain ⟨b, rfl⟩ := int_cell Try.underlying3 h1
    exact ⟨a, b, rfl⟩
theorem act_cells {fuel : Nat} {cs : List Value} {x : DataW H × List MemPlace} (h : DataW.trod enc Try.prog w base spare held fuel 32 cs = some x) : ∃ k t a b : Int, cs = [.int .i64 k, .int .i64 t, .int .i64 a, .int .i64 b] := by
  have hl : cs.length = 4 := (struct_len Try.underlying32 h).trans (by kernel_rfl)
  obtain ⟨_, _, h0⟩ := struct_field (j := 0) Try.underlying32 h rfl rfl rfl (show Try.prog.cellsOf 3 = 1 by kernel_rfl)
  obtain ⟨_, _, h1⟩ := struct_field (j := 1) Try.underlying32 h rfl rfl rfl (show Try.prog.cellsOf 3 = 1 by kernel_rfl)
  obtain ⟨_, _, h2⟩ := struct_field (j := 2) Try.underlying32 h rfl rfl rfl (show Try.prog.cellsOf 29 = 2 by kernel_rfl)
  match cs, hl with
  | [v0, v1, v2, v3], _ =>
    obtain ⟨k, rfl⟩ := int_cell Try.underlying3 h0
    obtain ⟨t, rfl⟩ := int_cell Try.underlying3 h1
    obtain ⟨a, b, e⟩ := st_cells h2
    have e' : [v2, v3] = [Value.int .i64 a, .int .i64 b] := e
    simp only [List.cons.injEq, and_true] at e'
    obtain ⟨rfl, rfl⟩ := e'
    exact ⟨k, t, a, b, rfl⟩
theorem st_value {r : Reach} {b0 : Nat} {v : Value} {d : DataW H} {p : List MemPlace} (hv : Value.okWide Try.prog w r b0 29 v) (h : DataW.Trod enc Try.prog w base spare held 29 v d p) : ∃ a b : Int, v = .agg #[.int .i64 a, .int .i64 b] := by
  obtain ⟨cs, rfl, _⟩ := okWide_struct Try.underlying29 hv
  obtain ⟨fuel, hf⟩ := h
  obtain ⟨a, b, e⟩ := st_cells hf
  exact ⟨a, b, by congr 1; exact Array.toList_inj.1 (by simpa [Value.cells] using e)⟩
theorem act_value {r : Reach} {b0 : Nat} {v : Value} {d : DataW H} {p : List MemPlace} (hv : Value.okWide Try.prog w r b0 32 v) (h : DataW.Trod enc Try.prog w base spare held 32 v d p) : ∃ k t a b : Int, v = .agg #[.int .i64 k, .int .i64 t, .int .i64 a, .int .i64 b] := by
  obtain ⟨cs, rfl, _⟩ := okWide_struct Try.underlying32 hv
  obtain ⟨fuel, hf⟩ := h
  obtain ⟨k, t, a, b, e⟩ := act_cells hf
  exact ⟨k, t, a, b, by congr 1; exact Array.toList_inj.1 (by simpa [Value.cells] using e)⟩
/-- A slice of calls that can be read: of each its four numbers. -/
def Acts (w : World) (a : Option Addr) (n : Nat) : Prop :=
  ∀ i, i < n → ∃ (b o : Nat) (z0 z1 z2 z3 : Int), a = some ⟨b, o, none⟩ ∧ w.cell? ⟨b, o + i * 4, none⟩ = some (.int .i64 z0) ∧ w.cell? ⟨b, o + i * 4 + 1, none⟩ = some (.int .i64 z1) ∧
    w.cell? ⟨b, o + i * 4 + 2, none⟩ = some (.int .i64 z2) ∧ w.cell? ⟨b, o + i * 4 + 3, none⟩ = some (.int .i64 z3)
theorem Acts.keep {w w' : World} {a : Option Addr} {n : Nat} (h : Acts w a n) (k : Keep (fun _ => False) w w') : Acts w' a n := by
  intro i hi
  obtain ⟨b, o, z0, z1, z2, z3, rfl, h0, h1, h2, h3⟩ := h i hi
  have hb : w'.heap[b]? = w.heap[b]? := k.block b (World.block_lt_of_cell? _ _ h0) (fun h => h)
  exact ⟨b, o, z0, z1, z2, z3, rfl, by rw [World.cell?_of_block (w := w) hb, h0], by rw [World.cell?_of_block (w := w) hb, h1], by rw [World.cell?_of_block (w := w) hb, h2], by rw [World.cell?_of_block (w := w) hb, h3]⟩
theorem acts_open {a : Option Addr} {n cap : Nat} {d : DataW H} {p : List MemPlace} (h : DataW.Trod enc Try.prog w base spare held 22 (.slice a n cap) d p) : n ≤ maxLen ∧ Acts w a n := by
  obtain ⟨fuel, hh⟩ := h
  rcases open_slice Try.underlying22 hh with ⟨h0, _⟩ | ⟨ad, len, cp, m, q, D, Pl, h0, _, hl, hcm, hm, _, hx⟩
  · simp only [Value.cells, List.cons.injEq, Value.slice.injEq] at h0
    obtain ⟨⟨rfl, rfl, rfl⟩, _⟩ := h0
    exact ⟨Nat.zero_le _, fun i hi => by omega⟩
  · simp only [Value.cells, List.cons.injEq, Value.slice.injEq] at h0
    obtain ⟨⟨rfl, rfl, rfl⟩, _⟩ := h0
    refine ⟨by omega, fun i hi => ?_⟩
    have him : i < m := by rw [hm]; split <;> omega
    have hC : Try.prog.cellsOf 32 = 4 := by kernel_rfl
    rw [hC] at hx
    obtain ⟨b, o, spot⟩ := ad
    have hsp : spot = none := by
      obtain ⟨cs0, hc0, _⟩ := hx 0 (by omega)
      obtain ⟨_, hlen0, hat0⟩ := World.cells?_some hc0
      have h0 := hat0 0 (by omega)
      rw [List.getElem?_eq_getElem (by omega)] at h0
      have hs := World.cell?_spot h0
      simpa [Addr.add] using hs
    subst hsp
    obtain ⟨cs, hc, htr⟩ := hx i him
    obtain ⟨_, hlen, hat⟩ := World.cells?_some hc
    obtain ⟨k, t, x, y, rfl⟩ := act_cells htr
    have h0 := hat 0 (by omega)
    have h1 := hat 1 (by omega)
    have h2 := hat 2 (by omega)
    have h3 := hat 3 (by omega)
    rw [add_none, add_none] at h0 h1 h2 h3
    exact ⟨b, o, k, t, x, y, rfl, h0, h1, h2, h3⟩
end
end Go.Proofs.Ytcadamdlfelocaa
