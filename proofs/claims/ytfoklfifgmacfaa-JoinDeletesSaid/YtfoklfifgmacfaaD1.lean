/- By DeleteWins: what puts and deletes make. No program in sight. -/
import Derived.Test.YtfoklfifgmacfaaP1
import Derived.Test.YtfoklfifgmacfaaQ2
namespace Go.Proofs.Ytfoklfifgmacfaa
open Go.RowKit
/-- A cell that may be, without deletes. -/
def Put (m : C) : Prop := m.good 2 = true ∧ m.d0 = 0 ∧ m.d1 = 0
theorem Put.zero : Put C.zero := ⟨C.zero_good (.inr rfl), rfl, rfl⟩
theorem Put.write {m : C} (h : Put m) : m.write = m := by
  obtain ⟨_, h0, h1⟩ := h
  obtain ⟨n, s, v0, v1, g, t, d0, d1⟩ := m
  dsimp only at h0 h1
  subst h0 h1
  rfl
theorem Put.two {m p : C} (hm : Put m) (hp : Put p) : p.two m = (if m.less p = true then p else m) ∧ Put (p.two m) := by
  have hg := C.good_two hp.1 hm.1
  have h0 : (p.two m).d0 = 0 := by rw [C.two_d0, hp.2.1, hm.2.1]; rfl
  have h1 : (p.two m).d1 = 0 := by rw [C.two_d1, hp.2.2, hm.2.2]; rfl
  have hP : Put (p.two m) := ⟨hg, h0, h1⟩
  refine ⟨?_, hP⟩
  have hw : p.two m = p.top m := by
    have e := C.two_write p m
    rw [hP.write] at e
    rw [e]
    unfold C.top
    split
    · exact hm.write
    · exact hp.write
  rw [hw]
  unfold C.top
  by_cases h : p.less m = true
  · rw [if_pos h, C.less_asymm h]; simp
  · rw [if_neg h]
    by_cases k : m.less p = true
    · rw [if_pos k]
    · rw [if_neg k]
      have := C.less_total (by simpa using h) (by simpa using k)
      rwa [hp.write, hm.write] at this
theorem bury_write (m : C) (p q : Int) : (m.bury p q).write = m.write := rfl
theorem vgood_iff {p q : Int} : vgood p q = true ↔ (0 ≤ p ∧ p ≤ 1099511627776 ∧ 0 ≤ q ∧ q ≤ 1099511627776) := by unfold vgood; simp
theorem Put.bury_good {m : C} (h : Put m) {p q : Int} (hv : vgood p q = true) : (m.bury p q).good 2 = true := by
  obtain ⟨_, hf, _, _, _, h2⟩ := C.good_parts h.1
  refine C.good_of (.inr rfl) ?_ (fun h => by omega) (fun _ => ⟨(h2 rfl).1, hv⟩)
  rw [C.fair_congr (bury_write m p q)]
  exact hf
theorem Put.join_delete {m : C} (h : Put m) {p q x y : Int} (hv : vgood p q = true) (hx : vgood x y = true) : C.join [m.bury p q, C.zero.bury x y] = m.bury (max p x) (max q y) ∧ vgood (max p x) (max q y) = true := by
  have hg := h.bury_good hv
  obtain ⟨_, hf, _⟩ := C.good_parts hg
  have hz := C.zero_le hf
  have hl : (m.bury p q).less (C.zero.bury x y) = false := by
    have e := C.less_congr (a := m.bury p q) (a' := m.bury p q) (b := C.zero.bury x y) (b' := C.zero) rfl rfl
    rw [e]
    exact hz
  rw [vgood_iff] at hv hx
  refine ⟨?_, by rw [vgood_iff]; omega⟩
  rw [C.join_two hg]
  unfold C.two
  rw [hl]
  have e0 : max (max 0 p) x = max p x := by omega
  have e1 : max (max 0 q) y = max q y := by omega
  show (m.bury p q).bury (max (max 0 p) x) (max (max 0 q) y) = _
  rw [e0, e1]
  rfl
theorem written_bury (m : C) (p q : Int) : (m.bury p q).written = m.written := rfl
theorem Put.written {m : C} (h : Put m) : m.written = ! decide (m = C.zero) := by unfold C.written; rw [h.write]
theorem Put.cover {m : C} (h : Put m) : (! decide (m = C.zero)) = (m.written && vcov m.v0 m.v1 0 0) := by
  rw [← h.written]
  by_cases hw : m.written = true
  · obtain ⟨_, hf, _⟩ := C.good_parts h.1
    unfold C.fair at hf
    rw [hw] at hf ⊢
    simp at hf
    have := vgood_iff.1 hf.1.1.2
    unfold vcov
    simp
    omega
  · simp [hw]
theorem cover_step (b : Bool) (v0 v1 p q x y : Int) : (b && vcov v0 v1 (max p x) (max q y)) = ((b && vcov v0 v1 p q) && decide (x ≤ v0) && decide (y ≤ v1)) := by
  unfold vcov
  cases b
  · simp
  · refine Bool.eq_iff_iff.2 ?_
    simp only [Bool.true_and, decide_eq_true_eq, Bool.and_eq_true]
    omega
theorem Put.shows {m : C} (h : Put m) {p q : Int} (hv : vgood p q = true) : (m.bury p q).shows 2 = (m.written && vcov m.v0 m.v1 p q) := by
  unfold C.shows
  rw [h.bury_good hv, written_bury]
  have hg := ((C.good_parts h.1).2.2.2.2.2 rfl).1
  show ((true && m.written) && !m.gone && vcov m.v0 m.v1 p q) = _
  rw [hg]
  simp
end Go.Proofs.Ytfoklfifgmacfaa
