/- A call has one outcome: two contracts of one call name one value. No condition. -/
import Derived.Test.YthcagpgdekhaeaaReg
namespace Go.Proofs.Ythcagpgdekhaeaa
/-- A frame whose next step ends the run. -/
def deadEnd : Frame := { fn := 0, tmps := #[], todo := [.code (.cond (.const (.slice none 0 0)) .skip .skip)], defers := [], mode := .run, kind := .normal }
theorem step_deadEnd (P : Program) (w : World) (v : Value) (m : Machine) : step P (lone (deadEnd.finish v) [] w) ≠ .next m := by
  have h : step P (lone (deadEnd.finish v) [] w) = .ended (.stuck "cond: bool expected" ((deadEnd.finish v).pos P)) w :=
    step_lone_ended (by simp [stepG, stepG.exec, deadEnd, Frame.finish, Frame.eval, GStep.bare])
  rw [h]
  intro e
  cases e
theorem after_leave {P : Program} {f1 f2 : Frame} {w1 w2 : World} {v1 : Value} {n : Nat} (l1 : f1.leaving P w1 (.returned v1)) (h : runN P n (lone f1 [deadEnd] w1) = .next (lone f2 [deadEnd] w2)) : f1 = f2 ∧ w1 = w2 := by
  cases n with
  | zero =>
    simp only [runN, Stepped.next.injEq, lone, Machine.mk.injEq] at h
    obtain ⟨hw, hg, _⟩ := h
    simp at hg
    exact ⟨hg, hw⟩
  | succ n =>
    simp only [runN, step_leave_returned l1] at h
    cases n with
    | zero =>
      simp [runN, lone] at h
    | succ n =>
      simp only [runN] at h
      split at h
      · rename_i m hm
        exact absurd hm (step_deadEnd P w1 v1 m)
      · rename_i hm
        exact absurd h (hm _)
theorem leaving_one {P : Program} {f : Frame} {w : World} {v1 v2 : Value} (l1 : f.leaving P w (.returned v1)) (l2 : f.leaving P w (.returned v2)) : v1 = v2 := by
  obtain ⟨_, _, _, fn, hf, hr⟩ := l1
  obtain ⟨_, _, _, fn', hf', hr'⟩ := l2
  rw [hf] at hf'
  cases hf'
  rw [hr] at hr'
  simpa using hr'
theorem leaving_det {P : Program} {m : Machine} {f1 f2 : Frame} {w1 w2 : World} {v1 v2 : Value} (h1 : Steps P m (lone f1 [deadEnd] w1)) (h2 : Steps P m (lone f2 [deadEnd] w2))
    (l1 : f1.leaving P w1 (.returned v1)) (l2 : f2.leaving P w2 (.returned v2)) : v1 = v2 := by
  obtain ⟨a, ha⟩ := h1
  obtain ⟨b, hb⟩ := h2
  rcases Nat.le_total a b with hab | hab
  · obtain ⟨c, rfl⟩ := Nat.exists_eq_add_of_le hab
    rw [runN_add, ha] at hb
    obtain ⟨rfl, rfl⟩ := after_leave l1 hb
    exact leaving_one l1 l2
  · obtain ⟨c, rfl⟩ := Nat.exists_eq_add_of_le hab
    rw [runN_add, hb] at ha
    obtain ⟨rfl, rfl⟩ := after_leave l2 ha
    exact leaving_one l1 l2
theorem Calls.det {P : Program} {f : FuncId} {args : Array Value} {w : World} {v1 v2 : Value} {C1 C2 : World → Prop} (h1 : Calls P f args w fun e w' => e = .returned v1 ∧ C1 w') (h2 : Calls P f args w fun e w' => e = .returned v2 ∧ C2 w') : v1 = v2 := by
  obtain ⟨e1, w1, f1, ⟨rfl, _⟩, s1, _, l1⟩ := h1 [deadEnd]
  obtain ⟨e2, w2, f2, ⟨rfl, _⟩, s2, _, l2⟩ := h2 [deadEnd]
  exact leaving_det s1 s2 l1 l2
theorem quietUpon_det {P : Program} {C1 C2 : World → Prop} {w : World} {v1 v2 : Value} {r : Result Next} (h1 : Oper.quietUpon P C1 w v1 r) (h2 : Oper.quietUpon P C2 w v2 r) : v1 = v2 := by
  cases r with
  | ok n w' =>
    cases n <;> simp only [Oper.quietUpon] at h1 h2
    case value u => exact h1.2.symm.trans h2.2
    case skip => exact h1.2.trans h2.2.symm
    case enter f args => exact Calls.det h1.2 h2.2
  | halt x w' => simp only [Oper.quietUpon] at h1
end Go.Proofs.Ythcagpgdekhaeaa
