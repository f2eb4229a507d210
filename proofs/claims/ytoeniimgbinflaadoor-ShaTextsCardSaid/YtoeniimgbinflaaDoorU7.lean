/- ShaTexts answers true, its digest opened. -/
import Derived.Test.YtoeniimgbinflaaDoorU6
import Derived.Test.YtoeniimgbinflaaDoorLO
namespace Go.Proofs.YtoeniimgbinflaaDoor
open Go.RowKit Go.WideShapes Go.ChangeShapes
section
variable {H : Type} {enc : TypeId × Value → H} {w : World} {base : Nat} {r : Reach} {b0 : Nat} {spare : Nat → Bool} {held : Bool}
theorem digest_open {v : Value} {d : DataW H} {p : List MemPlace} (hv : Value.okWide Tryd.prog w r b0 25 v) (h : DataW.Trod enc Tryd.prog w base spare held 25 v d p) : ∃ D : List UInt8, D.length = 32 ∧ v = .agg (bv D).toArray := by
  obtain ⟨cs, rfl, hsz, _⟩ : ∃ cs, v = .agg cs ∧ cs.size = Tryd.prog.cellsOf 25 ∧ Row.okWide Tryd.prog w r b0 25 cs := by
    simpa [Value.okWide, Tryd.underlying25] using hv
  rw [show Tryd.prog.cellsOf 25 = 32 by kernel_rfl] at hsz
  obtain ⟨fuel, hf⟩ := h
  obtain ⟨xs, m, _, _, _, hn, hel⟩ := DataW.trod_array Tryd.underlying25 hf
  have key : ∀ i, ∃ c : UInt8, ∀ hi : i < cs.size, cs[i] = .int .u8 (c.toNat : Int) := by
    intro i
    by_cases hi : i < cs.size
    · have h1 := hel i (by omega)
      rw [List.getElem?_eq_getElem (by omega), show Tryd.prog.cellsOf 5 = 1 by kernel_rfl, Nat.mul_one] at h1
      simp only [Value.cells] at h1
      have hL : i < cs.toList.length := by simpa using hi
      rw [List.drop_eq_getElem_cons hL, List.take_succ_cons, List.take_zero] at h1
      obtain ⟨z, e1, _, hw⟩ := DataW.trod_int Tryd.underlying5 h1
      have hr := u8_range hw
      simp only [List.cons.injEq, and_true] at e1
      refine ⟨UInt8.ofNat z.toNat, fun _ => ?_⟩
      have hz : ((UInt8.ofNat z.toNat).toNat : Int) = z := by
        rw [UInt8.toNat_ofNat']
        omega
      rw [hz, ← e1, Array.getElem_toList]
    · exact ⟨0, fun h => absurd h hi⟩
  obtain ⟨F, hF⟩ : ∃ F : Nat → UInt8, ∀ i, ∀ hi : i < cs.size, cs[i] = .int .u8 ((F i).toNat : Int) := ⟨fun i => Classical.choose (key i), fun i => Classical.choose_spec (key i)⟩
  refine ⟨(List.range 32).map F, by simp, ?_⟩
  congr 1
  apply Array.ext
  · simp [bv, hsz]
  · intro i h1 h2
    rw [hF i h1]
    simp [bv]
end
theorem texts_below (w : World) (v : Value) (S : ByteArray) (hm : S.size ≤ maxLen) (ht : Tab w) (h : ∃ D : List UInt8, D.length = 32 ∧ v = .agg (bv D).toArray) : Calls Tryd.prog 6 #[v, .string S] w fun e w' => e = .returned (.bool true) ∧ Below w.heap.size w w' := by
  obtain ⟨D, hD, rfl⟩ := h
  exact (texts_walk w D hD S hm ht).mono fun _ _ ⟨h, k⟩ => ⟨h, k.below (Nat.le_refl _) (fun _ h => h.elim)⟩
end Go.Proofs.YtoeniimgbinflaaDoor
