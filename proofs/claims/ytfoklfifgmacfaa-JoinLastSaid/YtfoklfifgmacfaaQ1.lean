/- By LastWins the join of cells is the write with the last stamp, if no two have one stamp. No program in sight. -/
import Derived.Test.YtfoklfifgmacfaaP1
import Derived.Test.YtfoklfifgmacfaaK1
namespace Go.Proofs.Ytfoklfifgmacfaa
open Go.RowKit
def C.later (a c : C) : C := if sless a.n a.s c.n c.s = true then c else a
def C.lastS (l : List C) : C := l.foldl C.later C.zero
theorem lastS_step (l : List C) (k : Nat) (x : C) (h : l[k]? = some x) : C.lastS (l.take (k + 1)) = (C.lastS (l.take k)).later x := by
  unfold C.lastS
  rw [List.take_add_one, h, List.foldl_append]; rfl
theorem two_later {m c : C} (hm : m.d0 = 0 ∧ m.d1 = 0) (hc : c.d0 = 0 ∧ c.d1 = 0) (hu : m.n = c.n ∧ m.s = c.s → m = c) : m.two c = m.later c := by
  have e : (if m.less c = true then c else m) = m.later c := by
    unfold C.later
    by_cases h : m.n = c.n ∧ m.s = c.s
    · have := hu h
      subst this
      simp
    · have : m.less c = sless m.n m.s c.n c.s := by unfold C.less; rw [if_pos h]
      rw [this]
  have hd : (m.later c).d0 = 0 ∧ (m.later c).d1 = 0 := by unfold C.later; split <;> assumption
  unfold C.two
  rw [e, hm.1, hm.2, hc.1, hc.2]
  generalize m.later c = z at hd
  obtain ⟨n, s, v0, v1, g, t, d0, d1⟩ := z
  obtain ⟨rfl, rfl⟩ := hd
  rfl
theorem zero_stamp {c : C} (h : c.good 1 = true) (hn : c.n = 0) : c = C.zero := by
  obtain ⟨_, hf, _, _, h1, _⟩ := C.good_parts h
  obtain ⟨d0, d1⟩ := h1 rfl
  have hw : c.write = C.zero := by
    unfold C.fair C.written at hf
    simp at hf
    rcases hf with hf | hf
    · exact hf
    · omega
  refine C.ext' (hw.trans rfl) ?_ ?_
  · rw [d0]; rfl
  · rw [d1]; rfl
theorem join_lastS_take {l : List C} (hg : ∀ c ∈ l, c.good 1 = true) (hu : ∀ (i j : Nat) (x y : C), l[i]? = some x → l[j]? = some y → j < i → x.n = y.n ∧ x.s = y.s → x = y) : ∀ k, k ≤ l.length → C.join (l.take k) = C.lastS (l.take k) ∧ (C.lastS (l.take k) = C.zero ∨ ∃ j, j < k ∧ l[j]? = some (C.lastS (l.take k))) := by
  intro k
  induction k with
  | zero => intro _; exact ⟨rfl, .inl rfl⟩
  | succ k ih =>
    intro hk
    obtain ⟨h1, h2⟩ := ih (by omega)
    obtain ⟨x, hx⟩ : ∃ x, l[k]? = some x := ⟨_, List.getElem?_eq_getElem (by omega)⟩
    have hxm : x ∈ l := List.mem_of_getElem? hx
    rw [join_step l k x hx, lastS_step l k x hx, h1]
    generalize C.lastS (l.take k) = m at *
    have gx := hg x hxm
    have xd := (C.good_parts gx).2.2.2.2.1 rfl
    have md : m.d0 = 0 ∧ m.d1 = 0 := by
      rcases h2 with rfl | ⟨j, _, hj⟩
      · exact ⟨rfl, rfl⟩
      · exact (C.good_parts (hg m (List.mem_of_getElem? hj))).2.2.2.2.1 rfl
    refine ⟨two_later md xd ?_, ?_⟩
    · intro hs
      rcases h2 with rfl | ⟨j, hjk, hj⟩
      · exact (zero_stamp gx (hs.1.symm.trans rfl)).symm
      · exact (hu k j x m hx hj hjk ⟨hs.1.symm, hs.2.symm⟩).symm
    · unfold C.later
      split
      · exact .inr ⟨k, by omega, hx⟩
      · rcases h2 with h2 | ⟨j, hjk, hj⟩
        · exact .inl h2
        · exact .inr ⟨j, by omega, hj⟩
theorem join_lastS {l : List C} (hg : ∀ c ∈ l, c.good 1 = true) (hu : ∀ (i j : Nat) (x y : C), l[i]? = some x → l[j]? = some y → j < i → x.n = y.n ∧ x.s = y.s → x = y) : C.join l = C.lastS l := by
  have := (join_lastS_take hg hu l.length (Nat.le_refl _)).1
  rwa [List.take_length] at this
end Go.Proofs.Ytfoklfifgmacfaa
