/- The given arguments of the laws, opened: bytes; parts of bytes. -/
import Derived.Test.YtoeniimgbinflaaDoorS8
import Derived.Test.YtoeniimgbinflaaDoorOpen
import Derived.OpenShut
namespace Go.Proofs.YtoeniimgbinflaaDoor
open Go.RowKit Go.ChangeShapes Go.WideShapes Go.Deep
section
variable {H : Type} {enc : TypeId × Value → H} {w : World} {base : Nat} {spare : Nat → Bool} {held : Bool}
theorem u8_range {z : Int} (h : (Lit.int .u8 z).wf = true) : 0 ≤ z ∧ z < 256 := by
  have a : IntKind.u8.min = 0 := by decide
  have b : IntKind.u8.max = 255 := by decide
  simp [Lit.wf, a, b] at h
  omega
theorem plain_addr {ad : Addr} {v : Value} (h : w.cell? (ad.add 0) = some v) : ∃ b o, ad = ⟨b, o, none⟩ := by
  obtain ⟨b, o, spot⟩ := ad
  have hs := World.cell?_spot h
  have hsp : spot = none := by simpa [Addr.add] using hs
  exact ⟨b, o, by rw [hsp]⟩
theorem bytes_open {fuel : Nat} {cs : List Value} {x : DataW H × List MemPlace} (h : DataW.trod enc Tryd.prog w base spare held fuel 22 cs = some x) : ∃ a n cap, cs = [.slice a n cap] ∧ n ≤ maxLen ∧ n ≤ cap ∧ ∃ xs : List UInt8, n = xs.length ∧ Bl w a xs := by
  rcases open_slice1 Tryd.underlying22 (by kernel_rfl) h with ⟨h0, _⟩ | ⟨ad, len, cp, m, k, V, D, Pl, h0, _, hl, hcm, hm, _, hx⟩
  · exact ⟨none, 0, 0, h0, Nat.zero_le _, Nat.le_refl _, [], rfl, fun i x hi => by simp at hi⟩
  · have key : ∀ i, ∃ c : UInt8, i < len → ∃ b o, some ad = some (⟨b, o, none⟩ : Addr) ∧ w.cell? ⟨b, o + i, none⟩ = some (.int .u8 (c.toNat : Int)) := by
      intro i
      by_cases hi : i < len
      · have him : i < m := by rw [hm]; split <;> omega
        obtain ⟨b, o, rfl⟩ := plain_addr (hx 0 (by omega)).1
        obtain ⟨hc, ht⟩ := hx i him
        obtain ⟨z, e1, _, hw⟩ := DataW.trod_int Tryd.underlying5 ht
        have hr := u8_range hw
        simp only [List.cons.injEq, and_true] at e1
        rw [add_none] at hc
        refine ⟨UInt8.ofNat z.toNat, fun _ => ⟨b, o, rfl, ?_⟩⟩
        have hz : ((UInt8.ofNat z.toNat).toNat : Int) = z := by
          rw [UInt8.toNat_ofNat']
          omega
        rw [hz, hc, e1]
      · exact ⟨0, fun h => absurd h hi⟩
    obtain ⟨F, hF⟩ : ∃ F : Nat → UInt8, ∀ i, i < len → ∃ b o, some ad = some (⟨b, o, none⟩ : Addr) ∧ w.cell? ⟨b, o + i, none⟩ = some (.int .u8 ((F i).toNat : Int)) := ⟨fun i => Classical.choose (key i), fun i => Classical.choose_spec (key i)⟩
    refine ⟨some ad, len, cp, h0, by omega, hl, (List.range len).map F, by simp, fun i x hi => ?_⟩
    have hi' : i < len := by simpa using (List.getElem?_eq_some_iff.1 hi).1
    obtain ⟨b, o, e, hc⟩ := hF i hi'
    refine ⟨b, o, e, ?_⟩
    rw [List.getElem?_map, List.getElem?_range hi'] at hi
    simp only [Option.map_some, Option.some.injEq] at hi
    rw [hc, hi]
theorem data_open {a : Option Addr} {n cap : Nat} {d : DataW H} {p : List MemPlace} (h : DataW.Trod enc Tryd.prog w base spare held 22 (.slice a n cap) d p) : n ≤ maxLen ∧ ∃ xs : List UInt8, n = xs.length ∧ Bl w a xs := by
  obtain ⟨fuel, hf⟩ := h
  obtain ⟨a', n', cap', e, hn, _, xs, hs, hb⟩ := bytes_open hf
  simp only [Value.cells, List.cons.injEq, Value.slice.injEq] at e
  obtain ⟨⟨rfl, rfl, rfl⟩, _⟩ := e
  exact ⟨hn, xs, hs, hb⟩
theorem parts_open {a : Option Addr} {n cap : Nat} {d : DataW H} {p : List MemPlace} (h : DataW.Trod enc Tryd.prog w base spare held 29 (.slice a n cap) d p) : n ≤ maxLen ∧ ∃ ps : List (List UInt8), n = ps.length ∧ Parts w a ps ∧ ∀ p ∈ ps, p.length ≤ maxLen := by
  obtain ⟨fuel, hf⟩ := h
  rcases open_slice1 Tryd.underlying29 (by kernel_rfl) hf with ⟨h0, _⟩ | ⟨ad, len, cp, m, k, V, D, Pl, h0, _, hl, hcm, hm, _, hx⟩
  · simp only [Value.cells, List.cons.injEq, Value.slice.injEq] at h0
    obtain ⟨⟨rfl, rfl, rfl⟩, _⟩ := h0
    exact ⟨Nat.zero_le _, [], rfl, fun i x hi => by simp at hi, fun p hp => by cases hp⟩
  · simp only [Value.cells, List.cons.injEq, Value.slice.injEq] at h0
    obtain ⟨⟨rfl, rfl, rfl⟩, _⟩ := h0
    have key : ∀ i, ∃ p : List UInt8, i < n → p.length ≤ maxLen ∧ ∃ b o ai ci, some ad = some (⟨b, o, none⟩ : Addr) ∧ w.cell? ⟨b, o + i, none⟩ = some (.slice ai p.length ci) ∧ p.length ≤ ci ∧ Bl w ai p := by
      intro i
      by_cases hi : i < n
      · have him : i < m := by rw [hm]; split <;> omega
        obtain ⟨b, o, rfl⟩ := plain_addr (hx 0 (by omega)).1
        obtain ⟨hc, ht⟩ := hx i him
        obtain ⟨ai, ni, ci, e1, h1, h2, xs, rfl, h3⟩ := bytes_open ht
        simp only [List.cons.injEq, and_true] at e1
        rw [add_none, e1] at hc
        exact ⟨xs, fun _ => ⟨h1, b, o, ai, ci, rfl, hc, h2, h3⟩⟩
      · exact ⟨[], fun h => absurd h hi⟩
    obtain ⟨F, hF⟩ : ∃ F : Nat → List UInt8, ∀ i, i < n → (F i).length ≤ maxLen ∧ ∃ b o ai ci, some ad = some (⟨b, o, none⟩ : Addr) ∧ w.cell? ⟨b, o + i, none⟩ = some (.slice ai (F i).length ci) ∧ (F i).length ≤ ci ∧ Bl w ai (F i) := ⟨fun i => Classical.choose (key i), fun i => Classical.choose_spec (key i)⟩
    refine ⟨by omega, (List.range n).map F, by simp, fun i x hi => ?_, fun p hp => ?_⟩
    · have hi' : i < n := by simpa using (List.getElem?_eq_some_iff.1 hi).1
      obtain ⟨_, hh⟩ := hF i hi'
      rw [List.getElem?_map, List.getElem?_range hi'] at hi
      simp only [Option.map_some, Option.some.injEq] at hi
      rw [hi] at hh
      exact hh
    · obtain ⟨i, hi, rfl⟩ := List.mem_map.1 hp
      exact (hF i (List.mem_range.1 hi)).1
end
end Go.Proofs.YtoeniimgbinflaaDoor
