/- The iterator of join.grown, walked: it hands each number with what those ahead of it are together. -/
import Derived.Test.YtfoklfifgmacfaaE1
import Derived.Test.YtfoklfifgmacfaaE2
import Derived.Test.YtfoklfifgmacfaaL4
import Derived.Shelf.Abstract
import Derived.Shelf.RegionOpen
import Derived.WalkKit
import Derived.OwnWalkIn
import Derived.TacticsInMore
import Derived.LoopNIn
import Derived.LoopIn
namespace Go.Proofs.Ytfoklfifgmacfaa
open Go.RowKit Go.Shelf
attribute [local go_sem] Oper.semAt_some
/-- What a round keeps: what lay below n0, and all blocks of cells of type 27. -/
def Kp (n0 : Nat) (A B : World) : Prop := Below n0 A B ∧ ∀ (b : Nat) (cs : Array Value) (fr : Nat × Nat), A.heap[b]? = some (Obj.cells cs 27 fr) → B.heap[b]? = some (Obj.cells cs 27 fr)
theorem Kp.trans {n0 : Nat} {A B D : World} (h : Kp n0 A B) (k : Kp n0 B D) : Kp n0 A D := ⟨h.1.trans k.1, fun b cs fr e => k.2 b cs fr (h.2 b cs fr e)⟩
theorem Kp.isC {n0 : Nat} {A B : World} (h : Kp n0 A B) {q : Nat} {x : C} (hx : IsC A q x) : IsC B q x := h.2 q _ _ hx
theorem Kp.cs {n0 : Nat} {A B : World} (h : Below n0 A B) {a : Option Addr} {l : List C} (hb : ∀ ad, a = some ad → ad.block < n0) (hc : Cs A a l) : Cs B a l := by
  intro i x hx
  obtain ⟨b, o, rfl, h0, h1, h2, h3, h4, h5, h6, h7⟩ := hc i x hx
  have hl := hb _ rfl
  dsimp only at hl
  have e : ∀ k, B.cell? ⟨b, k, none⟩ = A.cell? ⟨b, k, none⟩ := fun k => h.cell (p := ⟨b, k, none⟩) hl
  exact ⟨b, o, rfl, by rw [e]; exact h0, by rw [e]; exact h1, by rw [e]; exact h2, by rw [e]; exact h3, by rw [e]; exact h4, by rw [e]; exact h5, by rw [e]; exact h6, by rw [e]; exact h7⟩
end Go.Proofs.Ytfoklfifgmacfaa
