/- The given arguments of the window's laws, opened: a slice of calls; a slice of integers. -/
import Derived.Test.YtffkilfcphbbdaaOpen
import Derived.Test.YtffkilfcphbbdaaL3
namespace Go.Proofs.Ytffkilfcphbbdaa
open Go.RowKit Go.ChangeShapes Go.WideShapes Go.Deep
theorem acts_open {H : Type} {enc : TypeId × Value → H} {w : World} {base : Nat} {spare : Nat → Bool} {held : Bool} {a : Option Addr} {n cap : Nat} {d : DataW H} {p : List MemPlace}
    (h : DataW.Trod enc Try.prog w base spare held 34 (.slice a n cap) d p) : n ≤ maxLen ∧ Acts w a n := by
  obtain ⟨h1, h2⟩ := open_structs Try.underlying34 Try.underlying39 (by kernel_rfl) (by decide) (fun j f hj => by
    have hj4 : j < 4 := by have := (Array.getElem?_eq_some_iff.1 hj).1; simpa using this
    match j, hj4 with
    | 0, _ | 1, _ | 2, _ | 3, _ => simp at hj; subst hj; exact ⟨rfl, by kernel_rfl⟩) h
  refine ⟨h1, fun i hi => ?_⟩
  obtain ⟨b, o, rfl, hf⟩ := h2 i hi
  obtain ⟨v0, y0, m0, c0, r0⟩ := hf 0 _ rfl
  obtain ⟨v1, y1, m1, c1, r1⟩ := hf 1 _ rfl
  obtain ⟨v2, y2, m2, c2, r2⟩ := hf 2 _ rfl
  obtain ⟨v3, y3, m3, c3, r3⟩ := hf 3 _ rfl
  obtain ⟨z0, e0, _, _⟩ := DataW.trod_int Try.underlying3 r0
  obtain ⟨z1, e1, _, _⟩ := DataW.trod_int Try.underlying3 r1
  obtain ⟨z2, e2, _, _⟩ := DataW.trod_int Try.underlying3 r2
  obtain ⟨z3, e3, _, _⟩ := DataW.trod_int Try.underlying3 r3
  simp only [List.cons.injEq, and_true] at e0 e1 e2 e3
  subst e0 e1 e2 e3
  exact ⟨b, o, z0, z1, z2, z3, rfl, c0, c1, c2, c3⟩
end Go.Proofs.Ytffkilfcphbbdaa
