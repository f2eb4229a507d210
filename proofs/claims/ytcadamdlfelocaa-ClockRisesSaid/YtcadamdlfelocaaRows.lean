/-
  No cell of these rows narrows 'for every input' (looked for: loops, veiled, ifaces, maps, wideKeys, modest, calm, conditions, laid).
  DERIVED. THE GIVEN ROWS OF THIS SEAT. 4 by the template 'for every input the law returns true; each argument reads behind the call as it read before'; 0 by the template 'total and deterministic' (their statements: YtcadamdlfelocaaTotals.lean).
  GIVEN WITH THE SEED: the statements are not yours to turn. If you find one false, say at which input.
  Laid BY PROGRAM, IN A SANDBOX (cutbox-rows.mjs): the forced cells as the released guide's own fill.sh prints them over the translation a6f23a0a760c8d74… (all of the seat's roots in one cut). By AI agents, Wed Nov 11 2026. No macro, syntax, notation, axiom, sorry.
-/
import Derived.Test.YtcadamdlfelocaaChecked
import GoSem.Claim
import GoSem.ClaimJoined
import GoSem.ClaimMapViews
import Derived.JoinedTies
import Derived.KernelRfl
namespace Go.Proofs.Ytcadamdlfelocaa
/- THE CELL 'sum', in the pinned program and in every row, IS THE sha256 OF THE DUMP (.gsa) THAT YtcadamdlfelocaaProg.lean LOADS. Nothing in Lean hashes anything: it is a label: what it is worth is what the hold of that sum in a sandbox is worth. -/
noncomputable def Try.pinned : Pinned := { name := "ytcadamdlfelocaa", sum := "a6f23a0a760c8d7416ad443ffac0a1c7a90f5f95f73d1f6ca1ccdd70f2429412", checked := Try.checked }
namespace Rows
def none {H : Type} : Left H := { results := [], args := [] }

/-- 'gemellaw17.ClockRises': WHATEVER THE INPUT: true; the input reads as it did. -/
def clockRisesSpec : ChangeSpec := { name := "clockRises", fn := fun _ => fun
  | [d1, d2] => { results := [.lit (.bool true)], args := [d1, d2] }
  | _ => none }
def clockRisesRow : OpenClaim := { program := "ytcadamdlfelocaa", sum := "a6f23a0a760c8d7416ad443ffac0a1c7a90f5f95f73d1f6ca1ccdd70f2429412", func := "gemel/gemellaw17.ClockRises", spec := "clockRises", inPlace := ["sync/atomic.AddInt64", "sync/atomic.LoadInt64"], apart := false }
def ClockRisesSaid : Prop := clockRisesRow.holds Try.pinned (OpenSpec.ofChange clockRisesSpec)

/-- ITS FALSE NEIGHBOUR: 'it returns false'. Refute it at one input. -/
def clockRisesWrong : ChangeSpec := { name := "clockRises", fn := fun _ => fun
  | [d1, d2] => { results := [.lit (.bool false)], args := [d1, d2] }
  | _ => none }
def ClockRisesWrongFalsely : Prop := clockRisesRow.holds Try.pinned (OpenSpec.ofChange clockRisesWrong)

/-- 'gemellaw17.ClockPlays': WHATEVER THE INPUT: true; the input reads as it did. -/
def clockPlaysSpec : ChangeSpec := { name := "clockPlays", fn := fun _ => fun
  | [d1, d2, d3] => { results := [.lit (.bool true)], args := [d1, d2, d3] }
  | _ => none }
def clockPlaysRow : OpenClaim := { program := "ytcadamdlfelocaa", sum := "a6f23a0a760c8d7416ad443ffac0a1c7a90f5f95f73d1f6ca1ccdd70f2429412", func := "gemel/gemellaw17.ClockPlays", spec := "clockPlays", inPlace := ["sync/atomic.AddInt64", "sync/atomic.LoadInt64"], apart := false }
def ClockPlaysSaid : Prop := clockPlaysRow.holds Try.pinned (OpenSpec.ofChange clockPlaysSpec)

/-- ITS FALSE NEIGHBOUR: 'it returns false'. Refute it at one input. -/
def clockPlaysWrong : ChangeSpec := { name := "clockPlays", fn := fun _ => fun
  | [d1, d2, d3] => { results := [.lit (.bool false)], args := [d1, d2, d3] }
  | _ => none }
def ClockPlaysWrongFalsely : Prop := clockPlaysRow.holds Try.pinned (OpenSpec.ofChange clockPlaysWrong)

/-- 'gemellaw17.ClockPeeks': WHATEVER THE INPUT: true; the input reads as it did. -/
def clockPeeksSpec : ChangeSpec := { name := "clockPeeks", fn := fun _ => fun
  | [d1, d2, d3, d4] => { results := [.lit (.bool true)], args := [d1, d2, d3, d4] }
  | _ => none }
def clockPeeksRow : OpenClaim := { program := "ytcadamdlfelocaa", sum := "a6f23a0a760c8d7416ad443ffac0a1c7a90f5f95f73d1f6ca1ccdd70f2429412", func := "gemel/gemellaw17.ClockPeeks", spec := "clockPeeks", inPlace := ["sync/atomic.AddInt64", "sync/atomic.LoadInt64"], apart := false }
def ClockPeeksSaid : Prop := clockPeeksRow.holds Try.pinned (OpenSpec.ofChange clockPeeksSpec)

/-- ITS FALSE NEIGHBOUR: 'it returns false'. Refute it at one input. -/
def clockPeeksWrong : ChangeSpec := { name := "clockPeeks", fn := fun _ => fun
  | [d1, d2, d3, d4] => { results := [.lit (.bool false)], args := [d1, d2, d3, d4] }
  | _ => none }
def ClockPeeksWrongFalsely : Prop := clockPeeksRow.holds Try.pinned (OpenSpec.ofChange clockPeeksWrong)

/-- 'gemellaw17.ClockNobody': WHATEVER THE INPUT: true; the input reads as it did. -/
def clockNobodySpec : ChangeSpec := { name := "clockNobody", fn := fun _ => fun
  | [d] => { results := [.lit (.bool true)], args := [d] }
  | _ => none }
def clockNobodyRow : OpenClaim := { program := "ytcadamdlfelocaa", sum := "a6f23a0a760c8d7416ad443ffac0a1c7a90f5f95f73d1f6ca1ccdd70f2429412", func := "gemel/gemellaw17.ClockNobody", spec := "clockNobody", inPlace := ["sync/atomic.AddInt64", "sync/atomic.LoadInt64"], apart := false }
def ClockNobodySaid : Prop := clockNobodyRow.holds Try.pinned (OpenSpec.ofChange clockNobodySpec)

/-- ITS FALSE NEIGHBOUR: 'it returns false'. Refute it at one input. -/
def clockNobodyWrong : ChangeSpec := { name := "clockNobody", fn := fun _ => fun
  | [d] => { results := [.lit (.bool false)], args := [d] }
  | _ => none }
def ClockNobodyWrongFalsely : Prop := clockNobodyRow.holds Try.pinned (OpenSpec.ofChange clockNobodyWrong)

/- THE SECOND FORM. 'bulk': how many values and letters a reading holds, each counted each time it is reached (what is shared counts as often as it is met; a slice's spare places count too). A statement '..UptoSaid' is the law's where the arguments, and the package variables that the reading takes, are together of bulk at most 1048576: NARROWER than '..Said'. Prove '..Said' where nothing that the law and all that it calls make is longer than what came in: it says more and counts as full. Else prove '..UptoSaid'. A law counts once. -/
mutual
def uptoBulk {H : Type} : DataW H → Nat
  | .lit (.string bytes) => bytes.length + 1
  | .lit _ => 1
  | .nil => 1
  | .ptr d => uptoBulk d + 1
  | .slice elems spare => uptoBulkAll elems + uptoBulkAll spare + 1
  | .agg parts => uptoBulkAll parts + 1
  | .iface _ d => uptoBulk d + 1
  | .map entries => uptoBulkEntries entries + 1
  | .held _ => 1
def uptoBulkAll {H : Type} : List (DataW H) → Nat
  | [] => 0
  | d :: r => uptoBulk d + uptoBulkAll r
def uptoBulkEntries {H : Type} : List (Lit × DataW H) → Nat
  | [] => 0
  | x :: r => uptoBulkEntry x + uptoBulkEntries r
def uptoBulkEntry {H : Type} : Lit × DataW H → Nat
  | (.string bytes, d) => bytes.length + uptoBulk d + 1
  | (_, d) => uptoBulk d + 1
 end
def uptoSmall : (H : Type) → List (DataW H) → Bool := fun _ ds => decide (uptoBulkAll ds ≤ 1048576)
def OpenSpec.upto (s : _root_.Go.ChangeSpec) : _root_.Go.OpenSpec := { _root_.Go.OpenSpec.ofChange s with cond := some uptoSmall }

/-- 'gemellaw17.ClockRises', WHERE WHAT IT READS IS OF BULK AT MOST 1048576: true; the input reads as it did. -/
def clockRisesUptoRow : OpenClaim := { program := "ytcadamdlfelocaa", sum := "a6f23a0a760c8d7416ad443ffac0a1c7a90f5f95f73d1f6ca1ccdd70f2429412", func := "gemel/gemellaw17.ClockRises", spec := "clockRises", inPlace := ["sync/atomic.AddInt64", "sync/atomic.LoadInt64"], apart := false, narrowed := true }
def ClockRisesUptoSaid : Prop := clockRisesUptoRow.holds Try.pinned (OpenSpec.upto clockRisesSpec)

/-- 'gemellaw17.ClockPlays', WHERE WHAT IT READS IS OF BULK AT MOST 1048576: true; the input reads as it did. -/
def clockPlaysUptoRow : OpenClaim := { program := "ytcadamdlfelocaa", sum := "a6f23a0a760c8d7416ad443ffac0a1c7a90f5f95f73d1f6ca1ccdd70f2429412", func := "gemel/gemellaw17.ClockPlays", spec := "clockPlays", inPlace := ["sync/atomic.AddInt64", "sync/atomic.LoadInt64"], apart := false, narrowed := true }
def ClockPlaysUptoSaid : Prop := clockPlaysUptoRow.holds Try.pinned (OpenSpec.upto clockPlaysSpec)

/-- 'gemellaw17.ClockPeeks', WHERE WHAT IT READS IS OF BULK AT MOST 1048576: true; the input reads as it did. -/
def clockPeeksUptoRow : OpenClaim := { program := "ytcadamdlfelocaa", sum := "a6f23a0a760c8d7416ad443ffac0a1c7a90f5f95f73d1f6ca1ccdd70f2429412", func := "gemel/gemellaw17.ClockPeeks", spec := "clockPeeks", inPlace := ["sync/atomic.AddInt64", "sync/atomic.LoadInt64"], apart := false, narrowed := true }
def ClockPeeksUptoSaid : Prop := clockPeeksUptoRow.holds Try.pinned (OpenSpec.upto clockPeeksSpec)

/-- 'gemellaw17.ClockNobody', WHERE WHAT IT READS IS OF BULK AT MOST 1048576: true; the input reads as it did. -/
def clockNobodyUptoRow : OpenClaim := { program := "ytcadamdlfelocaa", sum := "a6f23a0a760c8d7416ad443ffac0a1c7a90f5f95f73d1f6ca1ccdd70f2429412", func := "gemel/gemellaw17.ClockNobody", spec := "clockNobody", inPlace := ["sync/atomic.AddInt64", "sync/atomic.LoadInt64"], apart := false, narrowed := true }
def ClockNobodyUptoSaid : Prop := clockNobodyUptoRow.holds Try.pinned (OpenSpec.upto clockNobodySpec)

end Rows
end Go.Proofs.Ytcadamdlfelocaa
