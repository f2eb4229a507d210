/- JoinDeletes answers true, its arguments opened. -/
import Derived.Test.YtfoklfifgmacfaaD3
import Derived.Test.YtfoklfifgmacfaaL3
namespace Go.Proofs.Ytfoklfifgmacfaa
open Go.RowKit Go.ChangeShapes Go.WideShapes Go.Deep
theorem vecs_open {H : Type} {enc : TypeId × Value → H} {w : World} {base : Nat} {spare : Nat → Bool} {held : Bool} {a : Option Addr} {n cap : Nat} {d : DataW H} {p : List MemPlace} (h : DataW.Trod enc Try.prog w base spare held 41 (.slice a n cap) d p) : n ≤ maxLen ∧ ∃ l : List (Int × Int), n = l.length ∧ Vs w a l := by
  obtain ⟨fuel, hh⟩ := h
  rcases open_slice Try.underlying41 hh with ⟨h0, _⟩ | ⟨ad, len, cp, m, q, D, Pl, h0, _, hl, hcm, hm, _, hx⟩
  · simp only [Value.cells, List.cons.injEq, Value.slice.injEq] at h0
    obtain ⟨⟨rfl, rfl, rfl⟩, _⟩ := h0
    exact ⟨Nat.zero_le _, [], rfl, fun i x hi => by simp at hi⟩
  · simp only [Value.cells, List.cons.injEq, Value.slice.injEq] at h0
    obtain ⟨⟨rfl, rfl, rfl⟩, _⟩ := h0
    have hC : Try.prog.cellsOf 25 = 2 := by kernel_rfl
    rw [hC] at hx
    have key : ∀ i, ∃ c : Int × Int, i < n → ∃ b o, some ad = some (⟨b, o, none⟩ : Addr) ∧ w.cell? ⟨b, o + i * 2, none⟩ = some (.int .i64 c.1) ∧ w.cell? ⟨b, o + i * 2 + 1, none⟩ = some (.int .i64 c.2) := by
      intro i
      by_cases hi : i < n
      · have him : i < m := by rw [hm]; split <;> omega
        obtain ⟨b, o, spot⟩ := ad
        have hsp : spot = none := by
          obtain ⟨cs0, hc0, _⟩ := hx 0 (by omega)
          obtain ⟨_, hlen0, hat0⟩ := World.cells?_some hc0
          have h0 := hat0 0 (by omega)
          rw [List.getElem?_eq_getElem (by omega)] at h0
          have hs := World.cell?_spot h0
          simpa [Addr.add] using hs
        subst hsp
        obtain ⟨cs, hc, htr⟩ := hx i him
        obtain ⟨_, hlen, hat⟩ := World.cells?_some hc
        obtain ⟨x, y, rfl⟩ := vec_cells htr
        have h0 := hat 0 (by omega)
        have h1 := hat 1 (by omega)
        rw [add_none, add_none] at h0 h1
        exact ⟨(x, y), fun _ => ⟨b, o, rfl, h0, h1⟩⟩
      · exact ⟨(0, 0), fun h => absurd h hi⟩
    obtain ⟨F, hF⟩ : ∃ F : Nat → Int × Int, ∀ i, i < n → ∃ b o, some ad = some (⟨b, o, none⟩ : Addr) ∧ w.cell? ⟨b, o + i * 2, none⟩ = some (.int .i64 (F i).1) ∧ w.cell? ⟨b, o + i * 2 + 1, none⟩ = some (.int .i64 (F i).2) := ⟨fun i => Classical.choose (key i), fun i => Classical.choose_spec (key i)⟩
    refine ⟨by omega, (List.range n).map F, by simp, fun i x hi => ?_⟩
    have hi' : i < n := by simpa using (List.getElem?_eq_some_iff.1 hi).1
    have hh := hF i hi'
    rw [List.getElem?_map, List.getElem?_range hi'] at hi
    simp only [Option.map_some, Option.some.injEq] at hi
    rw [hi] at hh
    exact hh
theorem deletes_below (w : World) (a a2 : Option Addr) (n cap n2 cap2 : Nat) (hn : n ≤ maxLen ∧ ∃ l : List C, n = l.length ∧ Cs w a l) (hv : n2 ≤ maxLen ∧ ∃ l : List (Int × Int), n2 = l.length ∧ Vs w a2 l) : Calls Try.prog 7 #[.slice a n cap, .slice a2 n2 cap2] w fun e w' => e = .returned (.bool true) ∧ Below w.heap.size w w' := by
  obtain ⟨hl, l, rfl, hcs⟩ := hn
  obtain ⟨hl2, vs, rfl, hvs⟩ := hv
  exact (deletes_walk l vs a a2 cap cap2 w hl hl2 hcs hvs).mono fun _ _ ⟨h, k⟩ => ⟨h, k.below (Nat.le_refl _) (fun _ h => h.elim)⟩
end Go.Proofs.Ytfoklfifgmacfaa
