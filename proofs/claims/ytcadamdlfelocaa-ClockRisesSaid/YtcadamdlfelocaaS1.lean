/- Stamps, walked: known, Good, Less, of both texts. -/
import Derived.Test.YtcadamdlfelocaaModel
namespace Go.Proofs.Ytcadamdlfelocaa
open Go.RowKit
set_option maxHeartbeats 400000 in
theorem known_any (s : Int) (w : World) :
    Calls Try.prog 28 #[.int .i64 s] w fun e w' => e = .returned (.bool (decide (s = 1 ∨ s = 2))) ∧ w = w' := by
  by_cases h1 : s = 1
  · subst h1
    go_enter Try.func28, Try.ntmps28
    go_wp2
    go_ret
    exact ⟨rfl, rfl⟩
  · by_cases h2 : s = 2
    · subst h2
      go_enter Try.func28, Try.ntmps28
      go_wp2
      go_ret
      exact ⟨rfl, rfl⟩
    · have e1 : (s == 1) = false := by simpa using h1
      have e2 : (s == 2) = false := by simpa using h2
      have h : decide (s = 1 ∨ s = 2) = false := by simp [h1, h2]
      rw [h]
      clear h h1 h2
      go_enter Try.func28, Try.ntmps28
      go_wp2
      go_ret
      exact ⟨rfl, rfl⟩
set_option maxHeartbeats 400000 in
theorem good_any (x : St) (w : World) :
    Calls Try.prog 19 #[x.v] w fun e w' => e = .returned (.bool x.good) ∧ Keep (fun _ => False) w w' := by
  obtain ⟨n, s⟩ := x
  unfold St.v St.good
  go_enter Try.func19, Try.ntmps19
  go_wp2_with (go_at_call 28; refine (known_any _ _).mono ?_; rintro e w' ⟨rfl, rfl⟩)
  all_goals
    go_ret
    refine ⟨ret_bool ?_, Keep.alloc _ _ _⟩
    refine Bool.eq_iff_iff.2 ?_
    simp at * <;> omega
set_option maxHeartbeats 400000 in
theorem rgood_any (x : St) (w : World) :
    Calls Try.prog 23 #[x.v] w fun e w' => e = .returned (.bool x.good) ∧ Keep (fun _ => False) w w' := by
  obtain ⟨n, s⟩ := x
  unfold St.v St.good
  go_enter Try.func23, Try.ntmps23
  go_wp2
  all_goals
    go_ret
    refine ⟨ret_bool ?_, Keep.alloc _ _ _⟩
    refine Bool.eq_iff_iff.2 ?_
    simp at * <;> omega
set_option maxHeartbeats 400000 in
theorem less_any (x y : St) (w : World) :
    Calls Try.prog 10 #[x.v, y.v] w fun e w' => e = .returned (.bool (x.less y)) ∧ Keep (fun _ => False) w w' := by
  obtain ⟨n, s⟩ := x
  obtain ⟨m, t⟩ := y
  unfold St.v St.less
  go_enter Try.func10, Try.ntmps10
  go_wp2
  all_goals
    go_ret
    refine ⟨ret_bool ?_, (Keep.alloc _ _ _).trans (Keep.alloc _ _ _)⟩
    refine Bool.eq_iff_iff.2 ?_
    simp at * <;> omega
set_option maxHeartbeats 400000 in
theorem rless_any (x y : St) (w : World) :
    Calls Try.prog 30 #[x.v, y.v] w fun e w' => e = .returned (.bool (x.less y)) ∧ Keep (fun _ => False) w w' := by
  obtain ⟨n, s⟩ := x
  obtain ⟨m, t⟩ := y
  unfold St.v St.less
  go_enter Try.func30, Try.ntmps30
  go_wp2
  all_goals
    go_ret
    refine ⟨ret_bool ?_, (Keep.alloc _ _ _).trans (Keep.alloc _ _ _)⟩
    refine Bool.eq_iff_iff.2 ?_
    simp at * <;> omega
end Go.Proofs.Ytcadamdlfelocaa
