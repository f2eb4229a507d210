/- ShaSums answers true, its bytes opened. -/
import Derived.Test.YtoeniimgbinflaaDoorLS
import Derived.Test.YtoeniimgbinflaaDoorLO
namespace Go.Proofs.YtoeniimgbinflaaDoor
open Go.RowKit
theorem sums_below (w : World) (a : Option Addr) (n cap : Nat) (ht : Tab w) (hn : n ≤ maxLen) (h : ∃ xs : List UInt8, n = xs.length ∧ Bl w a xs) : Calls Tryd.prog 3 #[.slice a n cap] w fun e w' => e = .returned (.bool true) ∧ Below w.heap.size w w' := by
  obtain ⟨xs, rfl, hb⟩ := h
  exact (sums_walk w a cap xs hb ht hn).mono fun _ _ ⟨h, k⟩ => ⟨h, k.below (Nat.le_refl _) (fun _ h => h.elim)⟩
end Go.Proofs.YtoeniimgbinflaaDoor
