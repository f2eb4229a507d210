/- The net's length and counts, walked. -/
import Derived.Test.YthcagpgdekhaeaaN1
import Derived.LoopN
namespace Go.Proofs.Ythcagpgdekhaeaa
open Go.RowKit
/-- A pointer to no net: nil, or one that no call made. -/
def Nobody (w : World) (v : Value) : Prop := v = .pointer none ∨ ∃ nb, v = .pointer (some ⟨nb, 0, none⟩) ∧ w.cell? ⟨nb, 0, none⟩ = some (.int .i64 0)
theorem none_nobody {v : Value} (w : World) (h : Nobody w v) : Calls Try.prog 23 #[v] w fun e w' => e = .returned (.bool true) ∧ w' = w := by
  rcases h with rfl | ⟨nb, rfl, h⟩
  · exact none_nil w
  · exact none_zero nb w h
theorem len_nobody {v : Value} (w : World) (h : Nobody w v) : Calls Try.prog 13 #[v] w fun e w' => e = .returned (.int .i64 0) ∧ w' = w := by
  have H := Lib.hid h
  clear h
  go_enter Try.func13, Try.ntmps13
  go_wp2_with (go_at_call 23; refine (none_nobody _ H.out).mono ?_; rintro e w' ⟨rfl, rfl⟩)
  go_ret
  exact ⟨rfl, rfl⟩
theorem len_at (nb : Nat) (most : Int) (a : Option Addr) (n cap : Nat) (w : World) (h0 : w.cell? ⟨nb, 0, none⟩ = some (.int .i64 most)) (h1 : w.cell? ⟨nb, 1, none⟩ = some (.slice a n cap)) (hm : 1 ≤ most) :
    Calls Try.prog 13 #[.pointer (some ⟨nb, 0, none⟩)] w fun e w' => e = .returned (.int .i64 n) ∧ w' = w := by
  have HN : Hid (∀ w : World, w.cell? ⟨nb, 0, none⟩ = some (.int .i64 most) → Calls Try.prog 23 #[.pointer (some ⟨nb, 0, none⟩)] w fun e w' => e = .returned (.bool false) ∧ w' = w) := fun w h => none_at nb most w h (beq_eq_false_iff_ne.2 (by omega))
  go_enter Try.func13, Try.ntmps13
  go_wp2_with (go_at_call 23; refine (HN.out _ h0).mono ?_; rintro e w' ⟨rfl, rfl⟩)
  go_ret
  exact ⟨rfl, rfl⟩
set_option maxHeartbeats 1000000 in
theorem counts_nobody {v : Value} (w : World) (h : Nobody w v) : Calls Try.prog 20 #[v] w fun e w' => e = .returned (.agg #[.int .i64 0, .int .i64 0, .int .i64 0, .int .i64 0]) ∧ Keep (fun _ => False) w w' := by
  have H : Hid (∀ W : World, Keep (fun _ => False) w W → Calls Try.prog 23 #[v] W fun e w' => e = .returned (.bool true) ∧ w' = W) := fun W k => none_nobody W (by
    rcases h with h | ⟨nb, rfl, h⟩
    · exact .inl h
    · exact .inr ⟨nb, rfl, (k.rules.1 nb 0 (World.block_lt_of_cell? w _ h)).trans h⟩)
  clear h
  go_enter Try.func20, Try.ntmps20
  go_wp2_with fail
  refine wp_loop_rounds 5 ?_
  rw [rounds_succ]
  go_wp2_with (go_at_call 23; refine (H.out _ (Keep.alloc _ _ _)).mono ?_; rintro e w' ⟨rfl, rfl⟩)
  rw [rounds_succ]
  go_wp2_with (go_at_call 23; refine (H.out _ (Keep.alloc _ _ _)).mono ?_; rintro e w' ⟨rfl, rfl⟩)
  rw [rounds_succ]
  go_wp2_with (go_at_call 23; refine (H.out _ (Keep.alloc _ _ _)).mono ?_; rintro e w' ⟨rfl, rfl⟩)
  rw [rounds_succ]
  go_wp2_with (go_at_call 23; refine (H.out _ (Keep.alloc _ _ _)).mono ?_; rintro e w' ⟨rfl, rfl⟩)
  rw [rounds_succ]
  go_wp2_with fail
  exact bodyPost_ret (v := .agg #[.int .i64 0, .int .i64 0, .int .i64 0, .int .i64 0]) (by simp [results, Try.results20, go_sem]) rfl ⟨rfl, Keep.alloc _ _ _⟩
set_option maxHeartbeats 2000000 in
theorem counts_at (nb base : Nat) (most : Int) (v : Value) (ps : List Pk) (c0 c1 c2 c3 : Int) (w : World) (h : NetAt w nb base most v ps c0 c1 c2 c3) (hm : 1 ≤ most) :
    Calls Try.prog 20 #[.pointer (some ⟨nb, 0, none⟩)] w fun e w' => e = .returned (.agg #[.int .i64 c0, .int .i64 c1, .int .i64 c2, .int .i64 c3]) ∧ Keep (fun _ => False) w w' := by
  have HN : Hid (∀ W : World, Keep (fun _ => False) w W → Calls Try.prog 23 #[.pointer (some ⟨nb, 0, none⟩)] W fun e w' => e = .returned (.bool false) ∧ w' = W) := fun W k => none_at nb most W (h.keep0 k).cells.1 (beq_eq_false_iff_ne.2 (by omega))
  have H0 : Hid (∀ W : World, Keep (fun _ => False) w W → Calls Try.prog 36 #[.pointer (some ⟨nb, 2, none⟩)] W fun e w' => e = .returned (.int .i64 c0) ∧ w' = W) := fun W k => load_any nb 2 c0 W (h.keep0 k).cells.2.2.1
  have H1 : Hid (∀ W : World, Keep (fun _ => False) w W → Calls Try.prog 36 #[.pointer (some ⟨nb, 3, none⟩)] W fun e w' => e = .returned (.int .i64 c1) ∧ w' = W) := fun W k => load_any nb 3 c1 W (h.keep0 k).cells.2.2.2.1
  have H2 : Hid (∀ W : World, Keep (fun _ => False) w W → Calls Try.prog 36 #[.pointer (some ⟨nb, 4, none⟩)] W fun e w' => e = .returned (.int .i64 c2) ∧ w' = W) := fun W k => load_any nb 4 c2 W (h.keep0 k).cells.2.2.2.2.1
  have H3 : Hid (∀ W : World, Keep (fun _ => False) w W → Calls Try.prog 36 #[.pointer (some ⟨nb, 5, none⟩)] W fun e w' => e = .returned (.int .i64 c3) ∧ w' = W) := fun W k => load_any nb 5 c3 W (h.keep0 k).cells.2.2.2.2.2
  clear h
  go_enter Try.func20, Try.ntmps20
  go_wp2_with fail
  refine wp_loop_rounds 5 ?_
  rw [rounds_succ]
  go_wp2_with (first | (go_at_call 23; refine (HN.out _ (Keep.alloc _ _ _)).mono ?_; rintro e w' ⟨rfl, rfl⟩) | (go_at_call 36; with_reducible refine (H0.out _ (Keep.alloc _ _ _)).mono ?_; rintro e w' ⟨rfl, rfl⟩))
  rw [rounds_succ]
  go_wp2_with (first | (go_at_call 23; refine (HN.out _ (Keep.alloc _ _ _)).mono ?_; rintro e w' ⟨rfl, rfl⟩) | (go_at_call 36; with_reducible refine (H1.out _ (Keep.alloc _ _ _)).mono ?_; rintro e w' ⟨rfl, rfl⟩))
  rw [rounds_succ]
  go_wp2_with (first | (go_at_call 23; refine (HN.out _ (Keep.alloc _ _ _)).mono ?_; rintro e w' ⟨rfl, rfl⟩) | (go_at_call 36; with_reducible refine (H2.out _ (Keep.alloc _ _ _)).mono ?_; rintro e w' ⟨rfl, rfl⟩))
  rw [rounds_succ]
  go_wp2_with (first | (go_at_call 23; refine (HN.out _ (Keep.alloc _ _ _)).mono ?_; rintro e w' ⟨rfl, rfl⟩) | (go_at_call 36; with_reducible refine (H3.out _ (Keep.alloc _ _ _)).mono ?_; rintro e w' ⟨rfl, rfl⟩))
  rw [rounds_succ]
  go_wp2_with fail
  exact bodyPost_ret (v := .agg #[.int .i64 c0, .int .i64 c1, .int .i64 c2, .int .i64 c3]) (by simp [results, Try.results20, go_sem]) rfl ⟨rfl, Keep.alloc _ _ _⟩
end Go.Proofs.Ythcagpgdekhaeaa
