/- What JoinMore and JoinLattice say, as plain law. No program in sight. -/
import Derived.Test.YtfoklfifgmacfaaP1
namespace Go.Proofs.Ytfoklfifgmacfaa
open Go.RowKit
theorem more_law {p : Int} {a b c : C} (ha : a.good p = true) (hb : b.good p = true) (hc : c.good p = true) :
    (a.within b = true → (C.join [a, c]).within (C.join [b, c]) = true) ∧ (a.within b = true → b.within a = true → decide (a = b) = true) ∧ (a.within b = true → b.within c = true → a.within c = true) := by
  rw [C.join_two ha, C.join_two hb, C.within_iff ha, C.within_iff hb, C.within_iff (C.good_two ha hc), C.within_iff hb, C.within_iff ha]
  refine ⟨fun h => ?_, fun h k => ?_, fun h k => ?_⟩
  · calc (a.two c).two (b.two c) = (a.two b).two (c.two c) := by rw [C.two_assoc, ← C.two_assoc c b c, C.two_comm c b, C.two_assoc b c c, ← C.two_assoc]
      _ = b.two c := by rw [h, C.self_good hc]
  · rw [decide_eq_true_eq, ← h, C.two_comm, k]
  · rw [← k, ← C.two_assoc, h]
theorem lattice_law {p : Int} {a b c : C} (ha : a.good p = true) (hb : b.good p = true) (hc : c.good p = true) :
    C.join [b, a] = C.join [a, b] ∧ C.join [a, C.join [b, c]] = C.join [C.join [a, b], c] ∧ C.join [c, b, a] = C.join [a, b, c] ∧ C.join [a, a] = a ∧ C.join [a] = a ∧ C.join [] = C.zero ∧
    (C.join [a, b]).good p = true ∧ a.within (C.join [a, b]) = true ∧ b.within (C.join [a, b]) = true ∧ C.zero.within a = true := by
  have hz : C.zero.good p = true := C.zero_good (C.good_parts ha).1
  have hab := C.good_two ha hb
  rw [C.join_two ha, C.join_two hb, C.join_two hb, C.join_two ha, C.join_two hab, C.join_three hc, C.join_three ha, C.join_two ha, C.join_one ha, C.within_iff ha, C.within_iff hb, C.within_iff hz]
  refine ⟨C.two_comm _ _, (C.two_assoc _ _ _).symm, ?_, C.self_good ha, rfl, rfl, hab, ?_, ?_, C.zero_two ha⟩
  · rw [C.two_comm c b, C.two_comm (b.two c) a, ← C.two_assoc]
  · rw [← C.two_assoc, C.self_good ha]
  · rw [C.two_comm a b, ← C.two_assoc, C.self_good hb]
end Go.Proofs.Ytfoklfifgmacfaa
