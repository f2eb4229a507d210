/- Which stamps, vectors and cells may be, as plain numbers. No program in sight. -/
import Derived.Test.YtfoklfifgmacfaaModel
namespace Go.Proofs.Ytfoklfifgmacfaa
open Go.RowKit
def sgood (n s : Int) : Bool := decide ((n = 0 ∧ s = 0) ∨ (1 ≤ n ∧ n ≤ 281474976710656 ∧ (s = 1 ∨ s = 2)))
def vgood (p q : Int) : Bool := decide (0 ≤ p ∧ p ≤ 1099511627776 ∧ 0 ≤ q ∧ q ≤ 1099511627776)
def C.written (x : C) : Bool := ! decide (x.write = C.zero)
def C.fair (x : C) : Bool := ! x.written || (decide (0 < x.n) && sgood x.n x.s && vgood x.v0 x.v1 && decide (x.value.size ≤ 64) && !(x.gone && !decide (x.value = ⟨#[]⟩)))
def C.good (p : Int) (x : C) : Bool :=
  if p = 1 then (if x.d0 = 0 ∧ x.d1 = 0 then x.fair else false)
  else if p = 2 then (if x.gone = true then false else if vgood x.d0 x.d1 = true then x.fair else false)
  else false
end Go.Proofs.Ytfoklfifgmacfaa
