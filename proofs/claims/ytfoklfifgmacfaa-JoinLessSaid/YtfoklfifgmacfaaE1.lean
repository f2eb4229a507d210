/- Those cells that are needed make what all make. No program in sight. -/
import Derived.Test.YtfoklfifgmacfaaP1
import Derived.Test.YtfoklfifgmacfaaK1
namespace Go.Proofs.Ytfoklfifgmacfaa
open Go.RowKit
/-- The numbers of the needed cells among the first k. -/
def need (l : List C) : Nat → List Nat
  | 0 => []
  | k + 1 => if (l.getD k C.zero).within (C.join (l.take k)) = true then need l k else need l k ++ [k]
def some_ (l : List C) (k : Nat) : List C := (need l k).map (l.getD · C.zero)
theorem some_step (l : List C) (k : Nat) : some_ l (k + 1) = if (l.getD k C.zero).within (C.join (l.take k)) = true then some_ l k else some_ l k ++ [l.getD k C.zero] := by
  unfold some_
  rw [need]
  split
  · rfl
  · rw [List.map_append]; rfl
theorem need_lt (l : List C) : ∀ k, ∀ i ∈ need l k, i < k := by
  intro k
  induction k with
  | zero => intro i hi; cases hi
  | succ k ih =>
    intro i hi
    rw [need] at hi
    split at hi
    · have := ih i hi; omega
    · rcases List.mem_append.1 hi with h | h
      · have := ih i h; omega
      · simp at h; omega
theorem join_snoc (s : List C) (c : C) : C.join (s ++ [c]) = (C.join s).two c := by unfold C.join; rw [List.foldl_append]; rfl
theorem getD_at {l : List C} {k : Nat} (h : k < l.length) : l[k]? = some (l.getD k C.zero) := by
  rw [List.getD_eq_getElem?_getD, List.getElem?_eq_getElem h]; rfl
theorem join_some {p : Int} {l : List C} (hg : ∀ c ∈ l, c.good p = true) : ∀ k, k ≤ l.length → C.join (some_ l k) = C.join (l.take k) := by
  intro k
  induction k with
  | zero => intro _; rfl
  | succ k ih =>
    intro hk
    have h1 := ih (by omega)
    have hx := getD_at (show k < l.length by omega)
    rw [join_step l k _ hx, some_step]
    have gx := hg _ (List.mem_of_getElem? hx)
    split
    · rename_i hw
      rw [h1]
      have := (C.within_iff gx _).1 hw
      rw [C.two_comm, this]
    · rw [join_snoc, h1]
theorem need_prefix (s : List C) (c : C) : ∀ j, j ≤ s.length → need (s ++ [c]) j = need s j := by
  intro j
  induction j with
  | zero => intro _; rfl
  | succ j ih =>
    intro hj
    have h1 : (s ++ [c]).getD j C.zero = s.getD j C.zero := by
      rw [List.getD_eq_getElem?_getD, List.getD_eq_getElem?_getD, List.getElem?_append_left (by omega)]
    have h2 : (s ++ [c]).take j = s.take j := by rw [List.take_append_of_le_length (by omega)]
    rw [need, need, h1, h2, ih (by omega)]
theorem need_some {p : Int} {l : List C} (hg : ∀ c ∈ l, c.good p = true) : ∀ k, k ≤ l.length → (need (some_ l k) (some_ l k).length).length = (some_ l k).length := by
  intro k
  induction k with
  | zero => intro _; rfl
  | succ k ih =>
    intro hk
    have h1 := ih (by omega)
    have hj := join_some hg k (by omega)
    rw [some_step]
    split
    · exact h1
    · rename_i hw
      generalize some_ l k = s at *
      have e1 : (s ++ [l.getD k C.zero]).length = s.length + 1 := by simp
      have e2 : (s ++ [l.getD k C.zero]).getD s.length C.zero = l.getD k C.zero := by
        rw [List.getD_eq_getElem?_getD, List.getElem?_append_right (Nat.le_refl _)]; simp
      have e3 : (s ++ [l.getD k C.zero]).take s.length = s := by rw [List.take_append_of_le_length (Nat.le_refl _), List.take_length]
      rw [e1, need, e2, e3, hj, if_neg hw, need_prefix s _ _ (Nat.le_refl _), List.length_append, h1]
      rfl
theorem need_next {l : List C} {k : Nat} : (∀ i ∈ need l k, i < k) := need_lt l k
end Go.Proofs.Ytfoklfifgmacfaa
