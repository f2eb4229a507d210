/- The reference's window, walked: its New and its Next do what the plain numbers say. -/
import Derived.Test.YtffkilfcphbbdaaW3
import Derived.StillTailTactics
namespace Go.Proofs.Ytffkilfcphbbdaa
open Go.RowKit
set_option maxHeartbeats 400000 in
theorem rnew_ok (s t : Int) (w : World) (h : 1 ≤ s ∧ s ≤ 16 ∧ 1 ≤ t ∧ t ≤ 64) :
    Calls Try.prog 12 #[.int .i64 s, .int .i64 t] w fun e w' => e = .returned (.tuple #[.pointer (some ⟨w.heap.size, 0, none⟩), .int .i64 0]) ∧
      w' = w.alloc (.cells #[.int .i64 s, .int .i64 t, .int .i64 0, .int .i64 0, .int .i64 0] 42) := by
  obtain ⟨h1, h2, h3, h4⟩ := h
  go_enter Try.func12, Try.ntmps12
  go_wp2
  all_goals (go_ret2; exact ⟨rfl, rfl⟩)
set_option maxHeartbeats 400000 in
theorem rnew_bad (s t : Int) (w : World) (h : ¬ (1 ≤ s ∧ s ≤ 16 ∧ 1 ≤ t ∧ t ≤ 64)) :
    Calls Try.prog 12 #[.int .i64 s, .int .i64 t] w fun e w' => e = .returned (.tuple #[.pointer none, .int .i64 2]) ∧ w' = w := by
  have h' : s < 1 ∨ 16 < s ∨ t < 1 ∨ 64 < t := by omega
  clear h
  rcases h' with h | h | h | h
  all_goals
    go_enter Try.func12, Try.ntmps12
    go_wp2
    all_goals (go_ret2; exact ⟨rfl, rfl⟩)
set_option maxRecDepth 100000 in
set_option maxHeartbeats 400000 in
theorem rnext_bad (w : World) (b : Nat) (ack hav now : Int) (hg : Win.good ack hav now = false) :
    Calls Try.prog 14 #[.pointer (some ⟨b, 0, none⟩), .int .i64 ack, .int .i64 hav, .int .i64 now] w fun e w' =>
      e = .returned (.tuple #[.slice none 0 0, .int .i64 2]) ∧ w = w' := by
  simp only [Win.good, decide_eq_false_iff_not] at hg
  have hg' : ack < 0 ∨ now < 0 ∨ hav < ack ∨ 1099511627776 < hav ∨ 1099511627776 < now := by omega
  clear hg
  rcases hg' with h | h | h | h | h
  all_goals
    go_enter Try.func14, Try.ntmps14
    go_wp2
    all_goals
      go_ret2
      exact ⟨rfl, rfl⟩
def RAt (w : World) (b : Nat) (x : Win) (w' : World) : Prop := IsWin w' b 42 x ∧ Keep (· = b) w w'
theorem RAt.drewN {w w' : World} {b : Nat} {x : Win} (h : RAt w b x w') (n : Nat) : RAt w b x (w'.drewN n) := ⟨h.1, h.2.trans (Keep.drewN _ _ _)⟩
theorem RAt.ack {w w' : World} {b : Nat} {x : Win} (h : RAt w b x w') (u v : Int) (hq : u = v) : RAt w b { x with ack := u } (w'.setCell ⟨b, 2, none⟩ (.int .i64 v)) := hq ▸ ⟨isWin_ack h.1 _, h.2.trans (Keep.setCell _ _ rfl)⟩
theorem RAt.sent {w w' : World} {b : Nat} {x : Win} (h : RAt w b x w') (u v : Int) (hq : u = v) : RAt w b { x with sent := u } (w'.setCell ⟨b, 3, none⟩ (.int .i64 v)) := hq ▸ ⟨isWin_sent h.1 _, h.2.trans (Keep.setCell _ _ rfl)⟩
theorem RAt.time {w w' : World} {b : Nat} {x : Win} (h : RAt w b x w') (v : Int) : RAt w b { x with time := v } (w'.setCell ⟨b, 4, none⟩ (.int .i64 v)) := ⟨isWin_time h.1 v, h.2.trans (Keep.setCell _ _ rfl)⟩
end Go.Proofs.Ytffkilfcphbbdaa
