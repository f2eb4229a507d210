/- A region that draws its order, by an invariant over the set of operations done: whatever order, each operation that comes up keeps it. No condition. -/
import Derived.Test.YthcagpgdekhaeaaReg
namespace Go.Proofs.Ythcagpgdekhaeaa
section
variable {P : Program} {ops : Array Oper} {md : Region.Mode} {Q : Exit → Act → World → Prop}
/-- How many operations are not done. -/
def undone (seen : Array Bool) : Nat := seen.toList.countP (fun b => !b)
theorem undone_set {seen : Array Bool} {i : Nat} (hi : i < seen.size) (h : seen.getD i true = false) : undone (seen.setIfInBounds i true) + 1 = undone seen := by
  unfold undone
  rw [Array.toList_setIfInBounds]
  have hi' : i < seen.toList.length := by simpa using hi
  have hx : seen.toList[i] = false := by
    simp only [Array.getD_eq_getD_getElem?, Array.getElem?_eq_getElem hi, Option.getD_some] at h
    simpa using h
  rw [List.countP_set hi']
  have hpos : 0 < seen.toList.countP (fun b => !b) := List.countP_pos_iff.2 ⟨false, hx ▸ List.getElem_mem hi', rfl⟩
  rw [hx]
  simp only [Bool.not_false, if_true, Bool.not_true, Bool.false_eq_true, if_false]
  omega
theorem wpAny_inv (Inv : Array Bool → Act → World → Prop) (hsize : ∀ seen a w, Inv seen a w → seen.size = ops.size)
    (step : ∀ seen a w i, Inv seen a w → i ∈ Region.ready md ops seen → wpOp P ops Q i (fun a' w' => Inv (seen.setIfInBounds i true) a' w') a w)
    (done : ∀ seen a w, Inv seen a w → Region.ready md ops seen = [] → Q .normal a w) :
    ∀ (f : Nat) (seen : Array Bool) (a : Act) (w : World), undone seen ≤ f → Inv seen a w → wpAny P md ops Q f seen a w
  | 0, seen, a, w, hf, hI => by
    have hr : Region.ready md ops seen = [] := by
      rw [List.eq_nil_iff_forall_not_mem]
      intro i hi
      obtain ⟨h1, o, ho, _⟩ := mem_ready.1 hi
      have hlt : i < seen.size := by rw [hsize _ _ _ hI]; exact (Array.getElem?_eq_some_iff.1 ho).1
      have := undone_set hlt h1
      omega
    exact ⟨hr, done _ _ _ hI hr⟩
  | f + 1, seen, a, w, hf, hI => by
    refine ⟨done _ _ _ hI, fun i hi => ?_⟩
    obtain ⟨h1, o, ho, _⟩ := mem_ready.1 hi
    have hlt : i < seen.size := by rw [hsize _ _ _ hI]; exact (Array.getElem?_eq_some_iff.1 ho).1
    have := undone_set hlt h1
    exact wpOp_mono (fun a' w' h => wpAny_inv Inv hsize step done f _ a' w' (by omega) h) (step _ _ _ _ hI hi)
end
end Go.Proofs.Ythcagpgdekhaeaa
