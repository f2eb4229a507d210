/- Opening an argument that is a slice of structs of one-cell fields: of each element each field's cell and its reading. -/
import Derived.Test.YtfoklfifgmacfaaBase
import Derived.ProofKit
import Derived.Deep.Slices
import Derived.ChangeSame
import Derived.Lib.SmallJoins
namespace Go.Proofs.Ytfoklfifgmacfaa
open Go.RowKit Go.ChangeShapes Go.WideShapes Go.Deep
variable {H : Type} {enc : TypeId × Value → H} {P : Program} {w : World} {base : Nat} {spare : Nat → Bool} {held : Bool}
theorem open_structs {t e : TypeId} {fs : Array Field} {a : Option Addr} {n cap : Nat} {d : DataW H} {p : List MemPlace} (ht : P.underlying t = some (.slice e)) (he : P.underlying e = some (.struct fs))
    (hC : P.cellsOf e = fs.size) (hpos : 0 < fs.size) (hf : ∀ (j : Nat) (f : Field), fs[j]? = some f → f.offset = j ∧ P.cellsOf f.type = 1) (h : DataW.Trod enc P w base spare held t (.slice a n cap) d p) :
    n ≤ maxLen ∧ ∀ i, i < n → ∃ b o, a = some ⟨b, o, none⟩ ∧ ∀ (j : Nat) (f : Field), fs[j]? = some f → ∃ (v : Value) (y : DataW H × List MemPlace) (m : Nat),
      w.cell? ⟨b, o + i * fs.size + j, none⟩ = some v ∧ DataW.trod enc P w base spare held m f.type [v] = some y := by
  obtain ⟨fuel, hh⟩ := h
  rcases open_slice ht hh with ⟨h0, _⟩ | ⟨ad, len, cp, m, q, D, Pl, h0, _, hl, hcm, hm, _, hx⟩
  · simp only [Value.cells, List.cons.injEq, Value.slice.injEq] at h0
    obtain ⟨⟨rfl, rfl, rfl⟩, _⟩ := h0
    exact ⟨Nat.zero_le _, fun i hi => by omega⟩
  · simp only [Value.cells, List.cons.injEq, Value.slice.injEq] at h0
    obtain ⟨⟨rfl, rfl, rfl⟩, _⟩ := h0
    refine ⟨by omega, fun i hi => ?_⟩
    have him : i < m := by rw [hm]; split <;> omega
    obtain ⟨cs, hc, htr⟩ := hx i him
    obtain ⟨_, hlen, hat⟩ := World.cells?_some hc
    obtain ⟨xs, q', _, hy, _, hxl, hfld⟩ := DataW.trod_struct he htr
    obtain ⟨b, o, spot⟩ := ad
    have hsp : spot = none := by
      obtain ⟨cs0, hc0, _⟩ := hx 0 (by omega)
      obtain ⟨_, hlen0, hat0⟩ := World.cells?_some hc0
      have h0 := hat0 0 (by omega)
      rw [List.getElem?_eq_getElem (by omega)] at h0
      have hs := World.cell?_spot h0
      simpa [Addr.add] using hs
    subst hsp
    refine ⟨b, o, rfl, fun j f hj => ?_⟩
    have hjs : j < fs.size := (Array.getElem?_eq_some_iff.1 hj).1
    obtain ⟨ho, h1⟩ := hf j f hj
    have h2 := hfld j f hj
    rw [ho, h1, List.drop_eq_getElem_cons (by omega)] at h2
    have h3 := hat j (by omega)
    rw [List.getElem?_eq_getElem (by omega), hC] at h3
    have hadd : (((⟨b, o, none⟩ : Addr).add (i * fs.size)).add j) = ⟨b, o + i * fs.size + j, none⟩ := by rw [add_none, add_none]
    rw [hadd] at h3
    rw [List.getElem?_eq_getElem (by omega)] at h2
    exact ⟨_, _, _, h3, h2⟩
end Go.Proofs.Ytfoklfifgmacfaa
