/-
  No cell of these rows narrows 'for every input' (looked for: loops, veiled, ifaces, maps, wideKeys, modest, calm, conditions, laid).
  DERIVED. THE GIVEN ROWS OF THIS SEAT. 6 by the template 'for every input the law returns true; each argument reads behind the call as it read before'; 0 by the template 'total and deterministic' (their statements: YtfoklfifgmacfaaTotals.lean).
  GIVEN WITH THE SEED: the statements are not yours to turn. If you find one false, say at which input.
  Laid BY PROGRAM, IN A SANDBOX (cutbox-rows.mjs): the forced cells as the released guide's own fill.sh prints them over the translation 857187d17909cc19… (all of the seat's roots in one cut). By AI agents, Wed Nov 11 2026. No macro, syntax, notation, axiom, sorry.
-/
import Derived.Test.YtfoklfifgmacfaaChecked
import GoSem.Claim
import GoSem.ClaimJoined
import GoSem.ClaimMapViews
import Derived.JoinedTies
import Derived.KernelRfl
namespace Go.Proofs.Ytfoklfifgmacfaa
/- THE CELL 'sum', in the pinned program and in every row, IS THE sha256 OF THE DUMP (.gsa) THAT YtfoklfifgmacfaaProg.lean LOADS. Nothing in Lean hashes anything: it is a label: what it is worth is what the hold of that sum in a sandbox is worth. -/
noncomputable def Try.pinned : Pinned := { name := "ytfoklfifgmacfaa", sum := "857187d17909cc195a8c67fdb46b1694cd4f0b0e89861e7c3acbd63d7d8e2291", checked := Try.checked }
namespace Rows
def none {H : Type} : Left H := { results := [], args := [] }

/-- 'gemellaw09.JoinTells': WHATEVER THE INPUT: true; the input reads as it did. -/
def joinTellsSpec : ChangeSpec := { name := "joinTells", fn := fun _ => fun
  | [d1, d2, d3] => { results := [.lit (.bool true)], args := [d1, d2, d3] }
  | _ => none }
def joinTellsRow : OpenClaim := { program := "ytfoklfifgmacfaa", sum := "857187d17909cc195a8c67fdb46b1694cd4f0b0e89861e7c3acbd63d7d8e2291", func := "gemel/gemellaw09.JoinTells", spec := "joinTells", unfollowed := true, recurses := true, apart := false }
def JoinTellsSaid : Prop := joinTellsRow.holds Try.pinned (OpenSpec.ofChange joinTellsSpec)

/-- ITS FALSE NEIGHBOUR: 'it returns false'. Refute it at one input. -/
def joinTellsWrong : ChangeSpec := { name := "joinTells", fn := fun _ => fun
  | [d1, d2, d3] => { results := [.lit (.bool false)], args := [d1, d2, d3] }
  | _ => none }
def JoinTellsWrongFalsely : Prop := joinTellsRow.holds Try.pinned (OpenSpec.ofChange joinTellsWrong)

/-- 'gemellaw09.JoinLattice': WHATEVER THE INPUT: true; the input reads as it did. -/
def joinLatticeSpec : ChangeSpec := { name := "joinLattice", fn := fun _ => fun
  | [d1, d2] => { results := [.lit (.bool true)], args := [d1, d2] }
  | _ => none }
def joinLatticeRow : OpenClaim := { program := "ytfoklfifgmacfaa", sum := "857187d17909cc195a8c67fdb46b1694cd4f0b0e89861e7c3acbd63d7d8e2291", func := "gemel/gemellaw09.JoinLattice", spec := "joinLattice", unfollowed := true, recurses := true, apart := false }
def JoinLatticeSaid : Prop := joinLatticeRow.holds Try.pinned (OpenSpec.ofChange joinLatticeSpec)

/-- ITS FALSE NEIGHBOUR: 'it returns false'. Refute it at one input. -/
def joinLatticeWrong : ChangeSpec := { name := "joinLattice", fn := fun _ => fun
  | [d1, d2] => { results := [.lit (.bool false)], args := [d1, d2] }
  | _ => none }
def JoinLatticeWrongFalsely : Prop := joinLatticeRow.holds Try.pinned (OpenSpec.ofChange joinLatticeWrong)

/-- 'gemellaw09.JoinMore': WHATEVER THE INPUT: true; the input reads as it did. -/
def joinMoreSpec : ChangeSpec := { name := "joinMore", fn := fun _ => fun
  | [d1, d2] => { results := [.lit (.bool true)], args := [d1, d2] }
  | _ => none }
def joinMoreRow : OpenClaim := { program := "ytfoklfifgmacfaa", sum := "857187d17909cc195a8c67fdb46b1694cd4f0b0e89861e7c3acbd63d7d8e2291", func := "gemel/gemellaw09.JoinMore", spec := "joinMore", unfollowed := true, recurses := true, apart := false }
def JoinMoreSaid : Prop := joinMoreRow.holds Try.pinned (OpenSpec.ofChange joinMoreSpec)

/-- ITS FALSE NEIGHBOUR: 'it returns false'. Refute it at one input. -/
def joinMoreWrong : ChangeSpec := { name := "joinMore", fn := fun _ => fun
  | [d1, d2] => { results := [.lit (.bool false)], args := [d1, d2] }
  | _ => none }
def JoinMoreWrongFalsely : Prop := joinMoreRow.holds Try.pinned (OpenSpec.ofChange joinMoreWrong)

/-- 'gemellaw09.JoinLast': WHATEVER THE INPUT: true; the input reads as it did. -/
def joinLastSpec : ChangeSpec := { name := "joinLast", fn := fun _ => fun
  | [d] => { results := [.lit (.bool true)], args := [d] }
  | _ => none }
def joinLastRow : OpenClaim := { program := "ytfoklfifgmacfaa", sum := "857187d17909cc195a8c67fdb46b1694cd4f0b0e89861e7c3acbd63d7d8e2291", func := "gemel/gemellaw09.JoinLast", spec := "joinLast", unfollowed := true, recurses := true, apart := false }
def JoinLastSaid : Prop := joinLastRow.holds Try.pinned (OpenSpec.ofChange joinLastSpec)

/-- ITS FALSE NEIGHBOUR: 'it returns false'. Refute it at one input. -/
def joinLastWrong : ChangeSpec := { name := "joinLast", fn := fun _ => fun
  | [d] => { results := [.lit (.bool false)], args := [d] }
  | _ => none }
def JoinLastWrongFalsely : Prop := joinLastRow.holds Try.pinned (OpenSpec.ofChange joinLastWrong)

/-- 'gemellaw09.JoinDeletes': WHATEVER THE INPUT: true; the input reads as it did. -/
def joinDeletesSpec : ChangeSpec := { name := "joinDeletes", fn := fun _ => fun
  | [d1, d2] => { results := [.lit (.bool true)], args := [d1, d2] }
  | _ => none }
def joinDeletesRow : OpenClaim := { program := "ytfoklfifgmacfaa", sum := "857187d17909cc195a8c67fdb46b1694cd4f0b0e89861e7c3acbd63d7d8e2291", func := "gemel/gemellaw09.JoinDeletes", spec := "joinDeletes", unfollowed := true, recurses := true, apart := false }
def JoinDeletesSaid : Prop := joinDeletesRow.holds Try.pinned (OpenSpec.ofChange joinDeletesSpec)

/-- ITS FALSE NEIGHBOUR: 'it returns false'. Refute it at one input. -/
def joinDeletesWrong : ChangeSpec := { name := "joinDeletes", fn := fun _ => fun
  | [d1, d2] => { results := [.lit (.bool false)], args := [d1, d2] }
  | _ => none }
def JoinDeletesWrongFalsely : Prop := joinDeletesRow.holds Try.pinned (OpenSpec.ofChange joinDeletesWrong)

/-- 'gemellaw09.JoinLess': WHATEVER THE INPUT: true; the input reads as it did. -/
def joinLessSpec : ChangeSpec := { name := "joinLess", fn := fun _ => fun
  | [d1, d2] => { results := [.lit (.bool true)], args := [d1, d2] }
  | _ => none }
def joinLessRow : OpenClaim := { program := "ytfoklfifgmacfaa", sum := "857187d17909cc195a8c67fdb46b1694cd4f0b0e89861e7c3acbd63d7d8e2291", func := "gemel/gemellaw09.JoinLess", spec := "joinLess", unfollowed := true, recurses := true, apart := false }
def JoinLessSaid : Prop := joinLessRow.holds Try.pinned (OpenSpec.ofChange joinLessSpec)

/-- ITS FALSE NEIGHBOUR: 'it returns false'. Refute it at one input. -/
def joinLessWrong : ChangeSpec := { name := "joinLess", fn := fun _ => fun
  | [d1, d2] => { results := [.lit (.bool false)], args := [d1, d2] }
  | _ => none }
def JoinLessWrongFalsely : Prop := joinLessRow.holds Try.pinned (OpenSpec.ofChange joinLessWrong)

/- THE SECOND FORM. 'bulk': how many values and letters a reading holds, each counted each time it is reached (what is shared counts as often as it is met; a slice's spare places count too). A statement '..UptoSaid' is the law's where the arguments, and the package variables that the reading takes, are together of bulk at most 1048576: NARROWER than '..Said'. Prove '..Said' where nothing that the law and all that it calls make is longer than what came in: it says more and counts as full. Else prove '..UptoSaid'. A law counts once. -/
mutual
def uptoBulk {H : Type} : DataW H → Nat
  | .lit (.string bytes) => bytes.length + 1
  | .lit _ => 1
  | .nil => 1
  | .ptr d => uptoBulk d + 1
  | .slice elems spare => uptoBulkAll elems + uptoBulkAll spare + 1
  | .agg parts => uptoBulkAll parts + 1
  | .iface _ d => uptoBulk d + 1
  | .map entries => uptoBulkEntries entries + 1
  | .held _ => 1
def uptoBulkAll {H : Type} : List (DataW H) → Nat
  | [] => 0
  | d :: r => uptoBulk d + uptoBulkAll r
def uptoBulkEntries {H : Type} : List (Lit × DataW H) → Nat
  | [] => 0
  | x :: r => uptoBulkEntry x + uptoBulkEntries r
def uptoBulkEntry {H : Type} : Lit × DataW H → Nat
  | (.string bytes, d) => bytes.length + uptoBulk d + 1
  | (_, d) => uptoBulk d + 1
 end
def uptoSmall : (H : Type) → List (DataW H) → Bool := fun _ ds => decide (uptoBulkAll ds ≤ 1048576)
def OpenSpec.upto (s : _root_.Go.ChangeSpec) : _root_.Go.OpenSpec := { _root_.Go.OpenSpec.ofChange s with cond := some uptoSmall }

/-- 'gemellaw09.JoinTells', WHERE WHAT IT READS IS OF BULK AT MOST 1048576: true; the input reads as it did. -/
def joinTellsUptoRow : OpenClaim := { program := "ytfoklfifgmacfaa", sum := "857187d17909cc195a8c67fdb46b1694cd4f0b0e89861e7c3acbd63d7d8e2291", func := "gemel/gemellaw09.JoinTells", spec := "joinTells", unfollowed := true, recurses := true, apart := false, narrowed := true }
def JoinTellsUptoSaid : Prop := joinTellsUptoRow.holds Try.pinned (OpenSpec.upto joinTellsSpec)

/-- 'gemellaw09.JoinLattice', WHERE WHAT IT READS IS OF BULK AT MOST 1048576: true; the input reads as it did. -/
def joinLatticeUptoRow : OpenClaim := { program := "ytfoklfifgmacfaa", sum := "857187d17909cc195a8c67fdb46b1694cd4f0b0e89861e7c3acbd63d7d8e2291", func := "gemel/gemellaw09.JoinLattice", spec := "joinLattice", unfollowed := true, recurses := true, apart := false, narrowed := true }
def JoinLatticeUptoSaid : Prop := joinLatticeUptoRow.holds Try.pinned (OpenSpec.upto joinLatticeSpec)

/-- 'gemellaw09.JoinMore', WHERE WHAT IT READS IS OF BULK AT MOST 1048576: true; the input reads as it did. -/
def joinMoreUptoRow : OpenClaim := { program := "ytfoklfifgmacfaa", sum := "857187d17909cc195a8c67fdb46b1694cd4f0b0e89861e7c3acbd63d7d8e2291", func := "gemel/gemellaw09.JoinMore", spec := "joinMore", unfollowed := true, recurses := true, apart := false, narrowed := true }
def JoinMoreUptoSaid : Prop := joinMoreUptoRow.holds Try.pinned (OpenSpec.upto joinMoreSpec)

/-- 'gemellaw09.JoinLast', WHERE WHAT IT READS IS OF BULK AT MOST 1048576: true; the input reads as it did. -/
def joinLastUptoRow : OpenClaim := { program := "ytfoklfifgmacfaa", sum := "857187d17909cc195a8c67fdb46b1694cd4f0b0e89861e7c3acbd63d7d8e2291", func := "gemel/gemellaw09.JoinLast", spec := "joinLast", unfollowed := true, recurses := true, apart := false, narrowed := true }
def JoinLastUptoSaid : Prop := joinLastUptoRow.holds Try.pinned (OpenSpec.upto joinLastSpec)

/-- 'gemellaw09.JoinDeletes', WHERE WHAT IT READS IS OF BULK AT MOST 1048576: true; the input reads as it did. -/
def joinDeletesUptoRow : OpenClaim := { program := "ytfoklfifgmacfaa", sum := "857187d17909cc195a8c67fdb46b1694cd4f0b0e89861e7c3acbd63d7d8e2291", func := "gemel/gemellaw09.JoinDeletes", spec := "joinDeletes", unfollowed := true, recurses := true, apart := false, narrowed := true }
def JoinDeletesUptoSaid : Prop := joinDeletesUptoRow.holds Try.pinned (OpenSpec.upto joinDeletesSpec)

/-- 'gemellaw09.JoinLess', WHERE WHAT IT READS IS OF BULK AT MOST 1048576: true; the input reads as it did. -/
def joinLessUptoRow : OpenClaim := { program := "ytfoklfifgmacfaa", sum := "857187d17909cc195a8c67fdb46b1694cd4f0b0e89861e7c3acbd63d7d8e2291", func := "gemel/gemellaw09.JoinLess", spec := "joinLess", unfollowed := true, recurses := true, apart := false, narrowed := true }
def JoinLessUptoSaid : Prop := joinLessUptoRow.holds Try.pinned (OpenSpec.upto joinLessSpec)

end Rows
end Go.Proofs.Ytfoklfifgmacfaa
