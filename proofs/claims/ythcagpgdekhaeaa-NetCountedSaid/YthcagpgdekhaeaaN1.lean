/- The net's small functions, walked: none, New, the counters. -/
import Derived.Test.YthcagpgdekhaeaaModel
import Derived.Laws.LoneSync
namespace Go.Proofs.Ythcagpgdekhaeaa
open Go.RowKit
theorem none_nil (w : World) : Calls Try.prog 23 #[.pointer none] w fun e w' => e = .returned (.bool true) ∧ w' = w := by
  go_enter Try.func23, Try.ntmps23
  go_wp2
  go_ret
  exact ⟨rfl, rfl⟩
theorem none_zero (nb : Nat) (w : World) (h : w.cell? ⟨nb, 0, none⟩ = some (.int .i64 0)) : Calls Try.prog 23 #[.pointer (some ⟨nb, 0, none⟩)] w fun e w' => e = .returned (.bool true) ∧ w' = w := by
  go_enter Try.func23, Try.ntmps23
  go_wp2
  go_ret
  exact ⟨rfl, rfl⟩
theorem none_at (nb : Nat) (most : Int) (w : World) (h : w.cell? ⟨nb, 0, none⟩ = some (.int .i64 most)) (hm : (most == 0) = false) : Calls Try.prog 23 #[.pointer (some ⟨nb, 0, none⟩)] w fun e w' => e = .returned (.bool false) ∧ w' = w := by
  go_enter Try.func23, Try.ntmps23
  go_wp2
  go_ret
  exact ⟨rfl, rfl⟩
theorem new_none (most : Int) (w : World) (h : most < 1 ∨ 64 < most) : Calls Try.prog 8 #[.int .i64 most] w fun e w' => e = .returned (.pointer none) ∧ w' = w := by
  rcases h with h | h
  · go_enter Try.func8, Try.ntmps8
    go_wp2
    go_ret
    exact ⟨rfl, rfl⟩
  · have h1 : ¬ most < 1 := by omega
    go_enter Try.func8, Try.ntmps8
    go_wp2
    go_ret
    exact ⟨rfl, rfl⟩
theorem new_any (most : Int) (w : World) (h1 : 1 ≤ most) (h2 : most ≤ 64) : Calls Try.prog 8 #[.int .i64 most] w fun e w' => ∃ nb, e = .returned (.pointer (some ⟨nb, 0, none⟩)) ∧ w.heap.size ≤ nb ∧ NetAt w' nb w.heap.size most (.slice none 0 0) [] 0 0 0 0 ∧ Keep (fun _ => False) w w' := by
  have g1 : ¬ most < 1 := by omega
  have g2 : ¬ 64 < most := by omega
  go_enter Try.func8, Try.ntmps8
  go_wp2
  go_ret
  exact ⟨_, rfl, Nat.le_refl _, ⟨heap_alloc_new w _, World.ownsRow_nil _ _ _ _⟩, Keep.alloc _ _ _⟩
theorem load_any (b o : Nat) (x : Int) (w : World) (h : w.cell? ⟨b, o, none⟩ = some (.int .i64 x)) : Calls Try.prog 36 #[.pointer (some ⟨b, o, none⟩)] w fun e w' => e = .returned (.int .i64 x) ∧ w' = w := by
  have hl := run_call_load (P := Try.prog) Try.func40 (by kernel_rfl) (by kernel_rfl) (by kernel_rfl) .i64 (by kernel_rfl) h
  go_enter Try.func36, Try.ntmps36
  go_wp2
  go_ret
  exact ⟨rfl, rfl⟩
theorem add_any (b o : Nat) (x y : Int) (w : World) (h : w.cell? ⟨b, o, none⟩ = some (.int .i64 x)) (hz : w.frozen? ⟨b, o, none⟩ = false) (h1 : 0 ≤ x) (h2 : x ≤ 1000000000) (h3 : 0 ≤ y) (h4 : y ≤ 1000000000) :
    Calls Try.prog 38 #[.pointer (some ⟨b, o, none⟩), .int .i64 y] w fun e w' => e = .returned (.int .i64 (x + y)) ∧ w' = w.setCell ⟨b, o, none⟩ (.int .i64 (x + y)) := by
  have hs : (Op.intArith .add .i64 x y).run Try.prog w = .ok (.int .i64 (x + y)) w := by
    have : IntKind.i64.wrap (x + y) = x + y := IntWalk.i64_in _ (by omega)
    simp [go_sem, this]
  have hl := run_call_add (P := Try.prog) Try.func41 (by kernel_rfl) (by kernel_rfl) (by kernel_rfl) .i64 (by kernel_rfl) h hz hs
  clear hs
  go_enter Try.func38, Try.ntmps38
  go_wp2
  go_ret
  exact ⟨rfl, rfl⟩
end Go.Proofs.Ythcagpgdekhaeaa
