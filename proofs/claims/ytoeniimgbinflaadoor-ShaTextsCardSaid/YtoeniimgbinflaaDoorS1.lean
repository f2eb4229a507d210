/- Turning a word. -/
import Derived.Test.YtoeniimgbinflaaDoorModel
namespace Go.Proofs.YtoeniimgbinflaaDoor
open Go.RowKit
theorem rot_amt : ∀ n : Fin 32, 1 ≤ n.val → bits .and .u64 (IntKind.u64.wrap (-(n.val : Int))) 31 = (32 - n.val : Nat) := by decide +kernel
theorem rot_any (x : W32) (n : Nat) (h1 : 1 ≤ n) (h2 : n ≤ 31) (w : World) : Calls Tryd.prog 28 #[x.v, .int .i64 (-(n : Int))] w fun e w' => e = .returned (rr x n).v ∧ w' = w := by
  have hs := rot_amt ⟨n, by omega⟩ h1
  dsimp only at hs
  obtain ⟨m, hm⟩ : ∃ m, 32 - n = m := ⟨_, rfl⟩
  rw [hm] at hs
  unfold W32.v
  go_enter Tryd.func28, Tryd.ntmps28
  go_wp2_with fail
  rw [m_shl, v_shr, v_or]
  have e : x <<< m ||| x >>> (32 - m) = rr x n := by unfold rr; rw [hm, show 32 - m = n by omega]
  rw [e]
  go_ret
  exact ⟨rfl, rfl⟩
theorem turn_any (x : W32) (n : Nat) (h1 : 1 ≤ n) (h2 : n ≤ 31) (w : World) : Calls Tryd.prog 25 #[x.v, .int .i64 n] w fun e w' => e = .returned (rr x n).v ∧ w' = w := by
  unfold W32.v
  go_enter Tryd.func25, Tryd.ntmps25
  go_wp2_with fail
  rw [m_shl, v_shr, v_or]
  have e : x >>> n ||| x <<< (32 - n) = rr x n := by unfold rr; rw [BitVec.or_comm]
  rw [e]
  go_ret
  exact ⟨rfl, rfl⟩
end Go.Proofs.YtoeniimgbinflaaDoor
