/- JoinLast answers true, its cells opened. -/
import Derived.Test.YtfoklfifgmacfaaQ3
import Derived.Test.YtfoklfifgmacfaaL3
namespace Go.Proofs.Ytfoklfifgmacfaa
open Go.RowKit Go.ChangeShapes Go.WideShapes Go.Deep
theorem cells_cap {H : Type} {enc : TypeId × Value → H} {w : World} {base : Nat} {spare : Nat → Bool} {held : Bool} {a : Option Addr} {n cap : Nat} {d : DataW H} {p : List MemPlace} (h : DataW.Trod enc Try.prog w base spare held 28 (.slice a n cap) d p) : n ≤ cap := by
  obtain ⟨fuel, hh⟩ := h
  rcases open_slice Try.underlying28 hh with ⟨h0, _⟩ | ⟨ad, len, cp, m, q, D, Pl, h0, _, hl, _⟩
  · simp only [Value.cells, List.cons.injEq, Value.slice.injEq] at h0
    obtain ⟨⟨rfl, rfl, rfl⟩, _⟩ := h0
    exact Nat.le_refl _
  · simp only [Value.cells, List.cons.injEq, Value.slice.injEq] at h0
    obtain ⟨⟨rfl, rfl, rfl⟩, _⟩ := h0
    exact hl
theorem joinlast_below (w : World) (a : Option Addr) (n cap : Nat) (hn : n ≤ maxLen ∧ ∃ l : List C, n = l.length ∧ Cs w a l) (hc : n ≤ cap) : Calls Try.prog 6 #[.slice a n cap] w fun e w' => e = .returned (.bool true) ∧ Below w.heap.size w w' := by
  obtain ⟨hl, l, rfl, hcs⟩ := hn
  exact (joinlast_walk l a cap w hl hc hcs).mono fun _ _ ⟨h, k⟩ => ⟨h, k.below (Nat.le_refl _) (fun _ h => h.elim)⟩
end Go.Proofs.Ytfoklfifgmacfaa
