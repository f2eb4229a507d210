/- The join of cells as plain law: a semilattice. No program in sight. -/
import Derived.Test.YtfoklfifgmacfaaM2
namespace Go.Proofs.Ytfoklfifgmacfaa
open Go.RowKit
def lex {α : Type} (R : α → α → Prop) (x y : α) (S : Prop) : Prop := R x y ∨ (x = y ∧ S)
theorem lex_trans {α : Type} {R : α → α → Prop} {x y z : α} {S T U : Prop} (hR : R x y → R y z → R x z) (hS : S → T → U) (h1 : lex R x y S) (h2 : lex R y z T) : lex R x z U := by
  rcases h1 with h1 | ⟨rfl, h1⟩
  · rcases h2 with h2 | ⟨rfl, h2⟩
    · exact .inl (hR h1 h2)
    · exact .inl h1
  · rcases h2 with h2 | ⟨rfl, h2⟩
    · exact .inl h2
    · exact .inr ⟨rfl, hS h1 h2⟩
theorem lex_total {α : Type} {R : α → α → Prop} {x y : α} {S T E : Prop} (hR : ¬ R x y → ¬ R y x → x = y) (hS : ¬ S → ¬ T → E) (h1 : ¬ lex R x y S) (h2 : ¬ lex R y x T) : x = y ∧ E := by
  have h := hR (fun h => h1 (.inl h)) (fun h => h2 (.inl h))
  subst h
  exact ⟨rfl, hS (fun h => h1 (.inr ⟨rfl, h⟩)) (fun h => h2 (.inr ⟨rfl, h⟩))⟩
theorem lex_irrefl {α : Type} {R : α → α → Prop} {x : α} {S : Prop} (hR : ¬ R x x) (hS : ¬ S) : ¬ lex R x x S := fun h => h.elim hR (fun h => hS h.2)
def blt (x y : ByteArray) : Prop := Op.bytesLess x.toList y.toList = true
def C.lt (a b : C) : Prop :=
  lex (fun x y : Int => x < y) a.n b.n (lex (fun x y : Int => x < y) a.s b.s (lex (fun x y : Bool => x = false ∧ y = true) a.gone b.gone (lex blt a.value b.value (lex (fun x y : Int => x < y) a.v0 b.v0 (a.v1 < b.v1)))))
theorem blt_trans {a b c : ByteArray} (h : blt a b) (k : blt b c) : blt a c := bytesLess_trans h k
theorem blt_irrefl (a : ByteArray) : ¬ blt a a := by unfold blt; rw [bytesLess_irrefl]; simp
theorem blt_total {a b : ByteArray} (h : ¬ blt a b) (k : ¬ blt b a) : a = b :=
  bytes_ext (bytesLess_total _ _ (by simpa [blt] using h) (by simpa [blt] using k))
theorem C.lt_trans {a b c : C} (h : a.lt b) (k : b.lt c) : a.lt c :=
  lex_trans (fun h k => by omega) (lex_trans (fun h k => by omega) (lex_trans (fun h k => ⟨h.1, k.2⟩) (lex_trans blt_trans (lex_trans (fun h k => by omega) (fun h k => by omega))))) h k
theorem C.lt_irrefl (a : C) : ¬ a.lt a :=
  lex_irrefl (by omega) (lex_irrefl (by omega) (lex_irrefl (fun h => by have := h.1.symm.trans h.2; simp at this) (lex_irrefl (blt_irrefl _) (lex_irrefl (by omega) (by omega)))))
theorem C.lt_total {a b : C} (h : ¬ a.lt b) (k : ¬ b.lt a) : a.write = b.write := by
  obtain ⟨n, s, v0, v1, g, t, d0, d1⟩ := a
  obtain ⟨n', s', v0', v1', g', t', d0', d1'⟩ := b
  obtain ⟨e1, e2, e3, e4, e5, e6⟩ := lex_total (E := s = s' ∧ g = g' ∧ t = t' ∧ v0 = v0' ∧ v1 = v1') (by omega) (lex_total (E := g = g' ∧ t = t' ∧ v0 = v0' ∧ v1 = v1') (by omega) (lex_total (E := t = t' ∧ v0 = v0' ∧ v1 = v1') (by cases g <;> cases g' <;> simp) (lex_total (E := v0 = v0' ∧ v1 = v1') blt_total (lex_total (S := v1 < v1') (T := v1' < v1) (E := v1 = v1') (by omega) (by omega))))) h k
  dsimp only at e1 e2 e3 e4 e5 e6
  subst e1 e2 e3 e4 e5 e6
  rfl
theorem C.less_iff (a b : C) : a.less b = true ↔ a.lt b := by
  obtain ⟨n, s, v0, v1, g, t, d0, d1⟩ := a
  obtain ⟨n', s', v0', v1', g', t', d0', d1'⟩ := b
  unfold C.less C.lt lex sless
  dsimp only
  by_cases h1 : n = n'
  · subst h1
    by_cases h2 : s = s'
    · subst h2
      by_cases h3 : g = g'
      · subst h3
        by_cases h4 : t = t'
        · subst h4
          have hb := blt_irrefl t
          by_cases h5 : v0 = v0'
          · subst h5
            simp [hb]
          · simp [h5, hb]
        · simp [h4, blt]
      · simp [h3]
        cases g <;> cases g' <;> simp_all
    · simp [h2]
  · simp [h1]
theorem C.less_asymm {a b : C} (h : a.less b = true) : b.less a = false := by
  rw [Bool.eq_false_iff]
  intro k
  exact C.lt_irrefl a (C.lt_trans ((C.less_iff a b).1 h) ((C.less_iff b a).1 k))
theorem C.less_trans {a b c : C} (h : a.less b = true) (k : b.less c = true) : a.less c = true :=
  (C.less_iff a c).2 (C.lt_trans ((C.less_iff a b).1 h) ((C.less_iff b c).1 k))
theorem C.less_total {a b : C} (h : a.less b = false) (k : b.less a = false) : a.write = b.write :=
  C.lt_total (fun h' => by rw [(C.less_iff a b).2 h'] at h; cases h) (fun h' => by rw [(C.less_iff b a).2 h'] at k; cases k)
theorem C.less_congr {a a' b b' : C} (h : a.write = a'.write) (k : b.write = b'.write) : a.less b = a'.less b' := by
  have e1 : a.less b = a.write.less b.write := rfl
  have e2 : a'.less b' = a'.write.less b'.write := rfl
  rw [e1, e2, h, k]
/-- not (b < a): the order of writes, weakly. -/
def C.le (a b : C) : Prop := b.less a = false
theorem C.le_trans {a b c : C} (h : a.le b) (k : b.le c) : a.le c := by
  unfold C.le at *
  rw [Bool.eq_false_iff]
  intro hc
  cases hab : a.less b with
  | true => rw [C.less_trans hc hab] at k; cases k
  | false =>
    have := C.less_total hab h
    rw [C.less_congr rfl this] at hc
    rw [hc] at k; cases k
/-- the later of two writes -/
def C.top (a b : C) : C := if a.less b = true then b else a
theorem C.top_le_left (a b : C) : a.le (a.top b) := by
  unfold C.top C.le
  split
  · rename_i h; exact C.less_asymm h
  · cases h : a.less a with
    | false => rfl
    | true => have := C.less_asymm h; rw [h] at this; cases this
theorem C.top_le_right (a b : C) : b.le (a.top b) := by
  unfold C.top C.le
  split
  · cases h : b.less b with
    | false => rfl
    | true => have := C.less_asymm h; rw [h] at this; cases this
  · rename_i h; simpa using h
theorem C.top_least {a b c : C} (h : a.le c) (k : b.le c) : (a.top b).le c := by
  unfold C.top
  split
  · exact k
  · exact h
theorem C.le_antisymm {a b : C} (h : a.le b) (k : b.le a) : a.write = b.write := C.less_total k h
theorem C.le_congr {a a' b b' : C} (h : a.write = a'.write) (k : b.write = b'.write) (hh : a.le b) : a'.le b' := by
  unfold C.le at *
  rw [C.less_congr k.symm h.symm]; exact hh
theorem C.two_write (a b : C) : (a.two b).write = (a.top b).write := rfl
theorem C.two_d0 (a b : C) : (a.two b).d0 = max (max 0 a.d0) b.d0 := rfl
theorem C.two_d1 (a b : C) : (a.two b).d1 = max (max 0 a.d1) b.d1 := rfl
theorem C.ext' {a b : C} (h : a.write = b.write) (h0 : a.d0 = b.d0) (h1 : a.d1 = b.d1) : a = b := by
  obtain ⟨n, s, v0, v1, g, t, d0, d1⟩ := a
  obtain ⟨n', s', v0', v1', g', t', d0', d1'⟩ := b
  simp only [C.write, C.bury, C.mk.injEq, and_true] at h
  obtain ⟨rfl, rfl, rfl, rfl, rfl, rfl⟩ := h
  dsimp only at h0 h1
  subst h0 h1
  rfl
theorem C.le_write_l {a a' b : C} (h : a.write = a'.write) (k : a.le b) : a'.le b := C.le_congr h rfl k
theorem C.le_write_r {a b b' : C} (h : b.write = b'.write) (k : a.le b) : a.le b' := C.le_congr rfl h k
theorem C.two_comm (a b : C) : a.two b = b.two a := by
  refine C.ext' ?_ (by rw [C.two_d0, C.two_d0]; omega) (by rw [C.two_d1, C.two_d1]; omega)
  rw [C.two_write, C.two_write]
  exact C.le_antisymm (C.top_least (C.top_le_right _ _) (C.top_le_left _ _)) (C.top_least (C.top_le_right _ _) (C.top_le_left _ _))
theorem C.two_assoc (a b c : C) : (a.two b).two c = a.two (b.two c) := by
  refine C.ext' ?_ (by simp only [C.two_d0]; omega) (by simp only [C.two_d1]; omega)
  rw [C.two_write, C.two_write]
  have l1 : (a.two b).le ((a.two b).top c) := C.top_le_left _ _
  have l2 : c.le ((a.two b).top c) := C.top_le_right _ _
  have r1 : a.le (a.top (b.two c)) := C.top_le_left _ _
  have r2 : (b.two c).le (a.top (b.two c)) := C.top_le_right _ _
  have e1 : (a.top b).le ((a.two b).top c) := C.le_write_l (C.two_write a b) l1
  have e2 : (b.top c).le (a.top (b.two c)) := C.le_write_l (C.two_write b c) r2
  refine C.le_antisymm ?_ ?_
  · refine C.top_least (C.le_write_l (C.two_write a b).symm (C.top_least r1 (C.le_trans (C.top_le_left b c) e2))) (C.le_trans (C.top_le_right b c) e2)
  · refine C.top_least (C.le_trans (C.top_le_left a b) e1) (C.le_write_l (C.two_write b c).symm (C.top_least (C.le_trans (C.top_le_right a b) e1) l2))
theorem C.two_self {a : C} (h0 : 0 ≤ a.d0) (h1 : 0 ≤ a.d1) : a.two a = a := by
  refine C.ext' ?_ (by rw [C.two_d0]; omega) (by rw [C.two_d1]; omega)
  rw [C.two_write]
  unfold C.top
  split <;> rfl
/-- What a cell that may be is. -/
theorem C.good_parts {p : Int} {a : C} (h : a.good p = true) : (p = 1 ∨ p = 2) ∧ a.fair = true ∧ 0 ≤ a.d0 ∧ 0 ≤ a.d1 ∧ (p = 1 → a.d0 = 0 ∧ a.d1 = 0) ∧ (p = 2 → a.gone = false ∧ vgood a.d0 a.d1 = true) := by
  unfold C.good at h
  split at h
  · rename_i hp
    split at h
    · rename_i hd
      exact ⟨.inl hp, h, by omega, by omega, fun _ => hd, fun h2 => by omega⟩
    · cases h
  · split at h
    · rename_i hp1 hp
      split at h
      · cases h
      · rename_i hg
        split at h
        · rename_i hv
          have hv' := hv
          simp only [vgood, decide_eq_true_eq] at hv'
          exact ⟨.inr hp, h, by omega, by omega, fun h1 => by omega, fun _ => ⟨by simpa using hg, hv⟩⟩
        · cases h
    · cases h
theorem C.good_of {p : Int} {a : C} (hp : p = 1 ∨ p = 2) (hf : a.fair = true) (h1 : p = 1 → a.d0 = 0 ∧ a.d1 = 0) (h2 : p = 2 → a.gone = false ∧ vgood a.d0 a.d1 = true) : a.good p = true := by
  unfold C.good
  rcases hp with rfl | rfl
  · rw [if_pos rfl, if_pos (h1 rfl)]; exact hf
  · rw [if_neg (by omega), if_pos rfl, if_neg (by rw [(h2 rfl).1]; simp), if_pos (h2 rfl).2]; exact hf
theorem C.fair_congr {a b : C} (h : a.write = b.write) : a.fair = b.fair := by
  have e : ∀ x : C, x.fair = x.write.fair := fun x => rfl
  rw [e a, e b, h]
theorem C.zero_le {a : C} (h : a.fair = true) : C.zero.le a := by
  unfold C.fair at h
  unfold C.le
  cases hw : a.written with
  | false =>
    have : a.write = C.zero.write := (show a.write = C.zero by simpa [C.written] using hw)
    exact C.less_self_write this
  | true =>
    simp only [hw, Bool.not_true, Bool.false_or, Bool.and_eq_true, decide_eq_true_eq] at h
    have hn : 0 < a.n := h.1.1.1.1
    have : ¬ (a.n = 0 ∧ a.s = 0) := by omega
    unfold C.less C.zero sless
    simp only [this, not_false_eq_true, if_true, decide_eq_false_iff_not]
    omega
theorem C.zero_two {p : Int} {a : C} (h : a.good p = true) : C.zero.two a = a := by
  obtain ⟨_, hf, h0, h1, _, _⟩ := C.good_parts h
  refine C.ext' ?_ (by rw [C.two_d0]; show max (max 0 0) a.d0 = _; omega) (by rw [C.two_d1]; show max (max 0 0) a.d1 = _; omega)
  rw [C.two_write]
  have hz := C.zero_le hf
  unfold C.top
  split
  · rfl
  · rename_i hn
    exact C.le_antisymm hz (by unfold C.le; simpa using hn)
theorem C.good_two {p : Int} {a b : C} (ha : a.good p = true) (hb : b.good p = true) : (a.two b).good p = true := by
  obtain ⟨hp, fa, a0, a1, a2, a3⟩ := C.good_parts ha
  obtain ⟨_, fb, b0, b1, b2, b3⟩ := C.good_parts hb
  refine C.good_of hp ?_ (fun h => ?_) (fun h => ?_)
  · rw [C.fair_congr (C.two_write a b)]
    unfold C.top; split
    · exact fb
    · exact fa
  · have := a2 h; have := b2 h
    rw [C.two_d0, C.two_d1]; omega
  · obtain ⟨ga, va⟩ := a3 h
    obtain ⟨gb, vb⟩ := b3 h
    refine ⟨?_, ?_⟩
    · have : (a.two b).gone = (a.top b).gone := rfl
      rw [this]; unfold C.top; split <;> assumption
    · rw [C.two_d0, C.two_d1]
      simp only [vgood, decide_eq_true_eq] at *
      omega
theorem C.join_nil : C.join [] = C.zero := rfl
theorem C.join_one {p : Int} {a : C} (h : a.good p = true) : C.join [a] = a := C.zero_two h
theorem C.join_two {p : Int} {a : C} (h : a.good p = true) (b : C) : C.join [a, b] = a.two b := by show (C.zero.two a).two b = _; rw [C.zero_two h]
theorem C.join_three {p : Int} {a : C} (h : a.good p = true) (b c : C) : C.join [a, b, c] = (a.two b).two c := by show ((C.zero.two a).two b).two c = _; rw [C.zero_two h]
theorem C.within_iff {p : Int} {a : C} (h : a.good p = true) (b : C) : a.within b = true ↔ a.two b = b := by
  unfold C.within; rw [C.join_two h]; simp
theorem C.zero_good {p : Int} (hp : p = 1 ∨ p = 2) : C.zero.good p = true := by
  rcases hp with rfl | rfl <;> decide +kernel
theorem C.self_good {p : Int} {a : C} (h : a.good p = true) : a.two a = a := by
  obtain ⟨_, _, h0, h1, _, _⟩ := C.good_parts h
  exact C.two_self h0 h1
end Go.Proofs.Ytfoklfifgmacfaa
