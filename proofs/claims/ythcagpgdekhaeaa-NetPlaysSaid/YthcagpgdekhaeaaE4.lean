/- NetPlays answers true, its acts opened. -/
import Derived.Test.YthcagpgdekhaeaaE3
namespace Go.Proofs.Ythcagpgdekhaeaa
open Go.RowKit
theorem plays_open (most : Int) (a : Option Addr) (n cap : Nat) (w : World) (hl : n ≤ maxLen) (h : ∃ l : List A, n = l.length ∧ Acts w a l) : Calls Try.prog 5 #[.int .i64 most, .slice a n cap] w fun e w' => e = .returned (.bool true) ∧ Below w.heap.size w w' := by
  obtain ⟨l, rfl, hA⟩ := h
  exact plays_any most a l cap w hl hA
end Go.Proofs.Ythcagpgdekhaeaa
