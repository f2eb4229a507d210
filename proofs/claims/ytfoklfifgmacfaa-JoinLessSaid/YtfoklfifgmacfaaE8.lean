/- JoinLess answers true, its cells opened. -/
import Derived.Test.YtfoklfifgmacfaaE7
import Derived.Test.YtfoklfifgmacfaaL3
namespace Go.Proofs.Ytfoklfifgmacfaa
open Go.RowKit
theorem joinless_below (p : Int) (w : World) (a : Option Addr) (n cap : Nat) (hn : n ≤ maxLen ∧ ∃ l : List C, n = l.length ∧ Cs w a l) : Calls Try.prog 8 #[.int .i64 p, .slice a n cap] w fun e w' => e = .returned (.bool true) ∧ Below w.heap.size w w' := by
  obtain ⟨hl, l, rfl, hcs⟩ := hn
  exact (less_walk p l a cap w hl hcs).mono fun _ _ ⟨h, k⟩ => ⟨h, k.below (Nat.le_refl _) (fun _ h => h.elim)⟩
end Go.Proofs.Ytfoklfifgmacfaa
