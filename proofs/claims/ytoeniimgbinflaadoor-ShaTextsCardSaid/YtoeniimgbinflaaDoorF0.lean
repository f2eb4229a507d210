/- What the listed variable's condition gives: the table of the rounds; the witness. -/
import Derived.Test.YtoeniimgbinflaaDoorNB
import Derived.ProofKit
import Derived.LaidMore
import Derived.OpenShut
import Derived.Stop.Joined
namespace Go.Proofs.YtoeniimgbinflaaDoor
open Go.ChangeShapes Go.WideShapes Go.ChangeAt Go.WideMaps Go.WideElems Go.RowKit
theorem own : ownKnob Tryd.prog.godebug = none := by kernel_rfl
theorem gRounds : Tryd.prog.globalNamed "gemel/sha.rounds" = some 0 := by kernel_rfl
theorem tRounds : (Tryd.prog.globals[0]?).map (·.type) = some 61 := by kernel_rfl
abbrev laid1 : List (String × DataW Unit) := [("gemel/sha.rounds", Rows.laid_gemel_sha_rounds)]
theorem door_met (os : Os) (args : Array Value) : laidMetH Tryd.prog laid1 ((World.doorLaid Tryd.prog 14 os).forCall (fun _ _ => 0) ⟨#[], args, []⟩).memory :=
  laidMetH_of_parts3 (fuel := 8) (laidMet_of_run' 8 (by kernel_rfl) (by kernel_rfl)) (by kernel_rfl) (by kernel_rfl)
theorem laid_is : (Rows.laid_gemel_sha_rounds : DataW Unit) = .agg (KT.map fun (k : Nat) => DataW.lit (.int .u32 (k : Int))) := rfl
theorem kk_nat : ∀ i : Fin 64, (kk i.val).toNat = KT.getD i.val 0 := by decide +kernel
theorem cells37 : Tryd.prog.cellsOf 37 = 1 := by kernel_rfl
theorem tab_of_laid {W : World} (h : laidMetH Tryd.prog laid1 W) : Tab W := by
  rw [MakeChecks.laidMetH_plain _ _ _ (by kernel_rfl)] at h
  obtain ⟨ps, ⟨g0, t0, cs0, f0, p0, q0, hg0, ht0, hv0, hd0, _, _⟩, _, _⟩ := h
  obtain rfl := Option.some.inj (gRounds.symm.trans hg0)
  obtain rfl := Option.some.inj (tRounds.symm.trans ht0)
  obtain ⟨xs, m1, hx0, hx1, hlen, hn3, hel⟩ := DataW.trod_array Tryd.underlying61 hd0
  rw [laid_is] at hx1
  simp only [Prod.mk.injEq, DataW.agg.injEq] at hx1
  intro i hi
  have h1 := hel i hi
  rw [List.getElem?_eq_getElem (by omega), cells37, Nat.mul_one] at h1
  have hL : i < (cs0.toList).length := by rw [hlen, show Tryd.prog.cellsOf 61 = 64 by kernel_rfl]; exact hi
  rw [List.drop_eq_getElem_cons hL, List.take_succ_cons, List.take_zero] at h1
  obtain ⟨k, e1, e2, _⟩ := DataW.trod_int Tryd.underlying37 h1
  simp only [List.cons.injEq, and_true] at e1
  have h2 := congrArg (fun l => l[i]?) hx1.1
  rw [List.getElem?_map, List.getElem?_map, List.getElem?_eq_getElem (show i < xs.length by omega), List.getElem?_eq_getElem (show i < KT.length by exact hi), Option.map_some, Option.map_some, e2] at h2
  simp only [Option.some.injEq, DataW.lit.injEq, Lit.int.injEq, true_and] at h2
  have h3 := World.var?_cell hg0 hv0 i
  have h4 := kk_nat ⟨i, hi⟩
  dsimp only at h4
  rw [h3]
  unfold W32.v
  rw [h4, List.getD_eq_getElem?_getD, List.getElem?_eq_getElem (show i < KT.length by exact hi), Option.getD_some, h2, ← e1]
  simp
end Go.Proofs.YtoeniimgbinflaaDoor
