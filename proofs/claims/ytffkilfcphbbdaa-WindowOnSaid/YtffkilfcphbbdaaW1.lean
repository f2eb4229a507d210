/- The window's small functions, walked. -/
import Derived.Test.YtffkilfcphbbdaaModel
namespace Go.Proofs.Ytffkilfcphbbdaa
open Go.RowKit
theorem Try.info3 : (Try.prog.info? 3).map (fun i => (i.zero, i.size, i.bytes)) = some (some (.int .i64 0), 1, 8) := by kernel_rfl
set_option maxHeartbeats 400000 in
theorem none_nil (w : World) :
    Calls Try.prog 18 #[.pointer none] w fun e w' => e = .returned (.bool true) ∧ w = w' := by
  go_enter Try.func18, Try.ntmps18
  go_wp2
  all_goals (go_ret; exact ⟨rfl, rfl⟩)
set_option maxHeartbeats 400000 in
theorem none_zero (w : World) (b : Nat) (c1 c2 c3 c4 : Value) (T : TypeId) (h : w.heap[b]? = some (.cells #[.int .i64 0, c1, c2, c3, c4] T (0,0))) :
    Calls Try.prog 18 #[.pointer (some ⟨b, 0, none⟩)] w fun e w' => e = .returned (.bool true) ∧ w = w' := by
  have h0 : w.cell? ⟨b, 0, none⟩ = some (.int .i64 0) := by simp [World.cell?, h]
  clear h
  go_enter Try.func18, Try.ntmps18
  go_wp2
  all_goals (go_ret; exact ⟨rfl, rfl⟩)
set_option maxHeartbeats 400000 in
theorem none_any (w : World) (b : Nat) (x : Win) (hx : x.Ok) (T : TypeId) (h : IsWin w b T x) :
    Calls Try.prog 18 #[.pointer (some ⟨b, 0, none⟩)] w fun e w' => e = .returned (.bool false) ∧ w = w' := by
  have h0 : w.cell? ⟨b, 0, none⟩ = some (.int .i64 x.size) := cell_of h 0
  have hb : (x.size == 0) = false := by have := hx.s1; simp; omega
  clear h hx
  go_enter Try.func18, Try.ntmps18
  go_wp2
  all_goals (go_ret; exact ⟨rfl, rfl⟩)
set_option maxHeartbeats 400000 in
theorem may_any (w : World) (b : Nat) (x : Win) (hx : x.Ok) (n : Int) (T : TypeId) (h : IsWin w b T x) :
    Calls Try.prog 19 #[.pointer (some ⟨b, 0, none⟩), .int .i64 n] w fun e w' => e = .returned (.bool (decide (n ≤ x.ack + x.size))) ∧ ∃ k, w' = w.drewN k := by
  have h0 : w.cell? ⟨b, 0, none⟩ = some (.int .i64 x.size) := cell_of h 0
  have h2 : w.cell? ⟨b, 2, none⟩ = some (.int .i64 x.ack) := cell_of h 2
  have := hx.s1
  have := hx.s2
  have := hx.a1
  have := hx.a2
  clear h hx
  go_enter Try.func19, Try.ntmps19
  go_wp2
  go_quiet (fail)
  all_goals go_wp2
  all_goals (go_ret; exact ⟨rfl, _, rfl⟩)
set_option maxHeartbeats 400000 in
theorem new_ok (s t : Int) (w : World) (h : 1 ≤ s ∧ s ≤ 16 ∧ 1 ≤ t ∧ t ≤ 64) :
    Calls Try.prog 8 #[.int .i64 s, .int .i64 t] w fun e w' => e = .returned (.tuple #[.pointer (some ⟨w.heap.size, 0, none⟩), .int .i64 0]) ∧
      w' = w.alloc (.cells #[.int .i64 s, .int .i64 t, .int .i64 0, .int .i64 0, .int .i64 0] 48) := by
  obtain ⟨h1, h2, h3, h4⟩ := h
  go_enter Try.func8, Try.ntmps8
  go_wp2
  all_goals (go_ret2; exact ⟨rfl, rfl⟩)
set_option maxHeartbeats 400000 in
theorem new_bad (s t : Int) (w : World) (h : ¬ (1 ≤ s ∧ s ≤ 16 ∧ 1 ≤ t ∧ t ≤ 64)) :
    Calls Try.prog 8 #[.int .i64 s, .int .i64 t] w fun e w' => e = .returned (.tuple #[.pointer none, .int .i64 2]) ∧ w' = w := by
  have h' : s < 1 ∨ 16 < s ∨ t < 1 ∨ 64 < t := by omega
  clear h
  rcases h' with h | h | h | h
  · go_enter Try.func8, Try.ntmps8
    go_wp2
    all_goals (go_ret2; exact ⟨rfl, rfl⟩)
  · go_enter Try.func8, Try.ntmps8
    go_wp2
    all_goals (go_ret2; exact ⟨rfl, rfl⟩)
  · go_enter Try.func8, Try.ntmps8
    go_wp2
    all_goals (go_ret2; exact ⟨rfl, rfl⟩)
  · go_enter Try.func8, Try.ntmps8
    go_wp2
    all_goals (go_ret2; exact ⟨rfl, rfl⟩)
end Go.Proofs.Ytffkilfcphbbdaa
