/- Stamps and clocks as plain numbers. No program in sight. -/
import Derived.Test.YtcadamdlfelocaaBase
namespace Go.Proofs.Ytcadamdlfelocaa
structure St where
  n : Int
  s : Int
deriving DecidableEq
def St.good (x : St) : Bool := decide ((x.n = 0 ∧ x.s = 0) ∨ (1 ≤ x.n ∧ x.n ≤ 281474976710656 ∧ (x.s = 1 ∨ x.s = 2)))
def St.less (x y : St) : Bool := decide (x.n < y.n ∨ (x.n = y.n ∧ x.s < y.s))
def St.v (x : St) : Value := .agg #[.int .i64 x.n, .int .i64 x.s]
def St.zero : St := ⟨0, 0⟩
/-- The stamp behind the last one: the stamp, and the error's number. -/
def St.nextN (x : St) (now : Int) : Int := max (x.n + 1) (min now 1099511627776)
def St.next (x : St) (now site : Int) : St × Int :=
  if (site = 1 ∨ site = 2) ∧ x.good = true then
    if x.nextN now ≤ 281474976710656 then (⟨x.nextN now, site⟩, 0) else (⟨0, 0⟩, 50)
  else (⟨0, 0⟩, 2)
/-- The later of two, the first if neither is good and later. -/
def St.later (x y : St) : St := if y.good = true ∧ x.less y = true then y else x
end Go.Proofs.Ytcadamdlfelocaa
