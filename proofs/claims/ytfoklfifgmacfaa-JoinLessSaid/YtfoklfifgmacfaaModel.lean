/- Cells as plain numbers. No program in sight. -/
import Derived.Test.YtfoklfifgmacfaaBase
namespace Go.Proofs.Ytfoklfifgmacfaa
open Go.RowKit
structure C where
  n : Int
  s : Int
  v0 : Int
  v1 : Int
  gone : Bool
  value : ByteArray
  d0 : Int
  d1 : Int
deriving DecidableEq
def C.zero : C := ⟨0, 0, 0, 0, false, ⟨#[]⟩, 0, 0⟩
def C.cs (x : C) : List Value := [.int .i64 x.n, .int .i64 x.s, .int .i64 x.v0, .int .i64 x.v1, .bool x.gone, .string x.value, .int .i64 x.d0, .int .i64 x.d1]
def C.v (x : C) : Value := .agg #[.int .i64 x.n, .int .i64 x.s, .int .i64 x.v0, .int .i64 x.v1, .bool x.gone, .string x.value, .int .i64 x.d0, .int .i64 x.d1]
def sless (n s m t : Int) : Bool := decide (n < m ∨ (n = m ∧ s < t))
def C.less (a b : C) : Bool :=
  if ¬ (a.n = b.n ∧ a.s = b.s) then sless a.n a.s b.n b.s
  else if a.gone ≠ b.gone then b.gone
  else if a.value ≠ b.value then Op.bytesLess a.value.toList b.value.toList
  else if a.v0 ≠ b.v0 then decide (a.v0 < b.v0)
  else decide (a.v1 < b.v1)
def C.bury (x : C) (d0 d1 : Int) : C := { x with d0 := d0, d1 := d1 }
def C.write (x : C) : C := x.bury 0 0
def C.two (a b : C) : C := (if a.less b = true then b else a).bury (max (max 0 a.d0) b.d0) (max (max 0 a.d1) b.d1)
def C.join (l : List C) : C := l.foldl C.two C.zero
def C.last (l : List C) : C := l.foldl (fun a b => if a.less b = true then b else a) C.zero
def vmax (l : List (Int × Int)) : Int × Int := l.foldl (fun a b => (max a.1 b.1, max a.2 b.2)) (0, 0)
def C.within (a b : C) : Bool := decide (C.join [a, b] = b)
theorem C.less_bury (a b : C) (p q r s : Int) : (a.bury p q).less (b.bury r s) = a.less b := rfl
theorem bytesLess_irrefl (l : List UInt8) : Op.bytesLess l l = false := by
  induction l with
  | nil => rfl
  | cons a l ih => simp [Op.bytesLess, ih]
theorem C.less_self_write {a b : C} (h : a.write = b.write) : a.less b = false := by
  obtain ⟨n, s, v0, v1, g, t, d0, d1⟩ := a
  obtain ⟨n', s', v0', v1', g', t', d0', d1'⟩ := b
  simp only [C.write, C.bury, C.mk.injEq, and_true] at h
  obtain ⟨rfl, rfl, rfl, rfl, rfl, rfl⟩ := h
  simp [C.less]
theorem bytes_ext {a b : ByteArray} (h : a.toList = b.toList) : a = b := by
  rw [ByteArray.toList_eq, ByteArray.toList_eq] at h
  obtain ⟨⟨x⟩⟩ := a
  obtain ⟨⟨y⟩⟩ := b
  simpa using h
theorem bytesLess_trans : ∀ {a b c : List UInt8}, Op.bytesLess a b = true → Op.bytesLess b c = true → Op.bytesLess a c = true
  | _, [], _, h, _ => by simp [Op.bytesLess] at h
  | _, _ :: _, [], _, h => by simp [Op.bytesLess] at h
  | [], _ :: _, _ :: _, _, _ => by simp [Op.bytesLess]
  | a :: x, b :: y, c :: z, h1, h2 => by
    simp only [Op.bytesLess, Bool.or_eq_true, decide_eq_true_eq, Bool.and_eq_true, beq_iff_eq] at *
    rcases h1 with h1 | ⟨rfl, h1⟩
    · rcases h2 with h2 | ⟨rfl, h2⟩
      · exact .inl (UInt8.lt_trans h1 h2)
      · exact .inl h1
    · rcases h2 with h2 | ⟨rfl, h2⟩
      · exact .inl h2
      · exact .inr ⟨rfl, bytesLess_trans h1 h2⟩
theorem bytesLess_total : ∀ (a b : List UInt8), Op.bytesLess a b = false → Op.bytesLess b a = false → a = b
  | [], [], _, _ => rfl
  | [], _ :: _, h, _ => by simp [Op.bytesLess] at h
  | _ :: _, [], _, h => by simp [Op.bytesLess] at h
  | a :: x, b :: y, h1, h2 => by
    simp only [Op.bytesLess, Bool.or_eq_false_iff, decide_eq_false_iff_not, Bool.and_eq_false_iff, beq_eq_false_iff_ne] at *
    obtain ⟨h1, h3⟩ := h1
    obtain ⟨h2, h4⟩ := h2
    have : a = b := UInt8.le_antisymm (UInt8.not_lt.1 h2) (UInt8.not_lt.1 h1)
    subst this
    have := bytesLess_total x y (h3.resolve_left (fun h => h rfl)) (h4.resolve_left (fun h => h rfl))
    rw [this]
theorem C.last_join (l : List C) : ∀ (a b : C), a.write = b.write → (l.foldl C.two a).write = (l.foldl (fun a b => if a.less b = true then b else a) b).write := by
  induction l with
  | nil => intro a b h; exact h
  | cons x l ih =>
    intro a b h
    refine ih _ _ ?_
    have h1 : a.less x = b.less x := by
      have e1 : a.less x = a.write.less x := rfl
      have e2 : b.less x = b.write.less x := rfl
      rw [e1, e2, h]
    unfold C.two
    rw [h1]
    by_cases hb : b.less x = true
    · simp only [hb, if_true]; rfl
    · simp only [hb]; exact h
theorem C.join_d (l : List C) : ∀ (a : C), 0 ≤ a.d0 → 0 ≤ a.d1 → ((l.foldl C.two a).d0, (l.foldl C.two a).d1) = (l.map fun x => (x.d0, x.d1)).foldl (fun a b => (max a.1 b.1, max a.2 b.2)) (a.d0, a.d1) := by
  induction l with
  | nil => intro a _ _; rfl
  | cons x l ih =>
    intro a h0 h1
    simp only [List.foldl_cons, List.map_cons]
    have e0 : (a.two x).d0 = max a.d0 x.d0 := by show max (max 0 a.d0) x.d0 = _; omega
    have e1 : (a.two x).d1 = max a.d1 x.d1 := by show max (max 0 a.d1) x.d1 = _; omega
    rw [ih (a.two x) (by omega) (by omega), e0, e1]
/-- The program's join is the document's. -/
theorem C.join_eq (l : List C) : (C.last l).bury (vmax (l.map fun x => (x.d0, x.d1))).1 (vmax (l.map fun x => (x.d0, x.d1))).2 = C.join l := by
  have h1 := C.last_join l C.zero C.zero rfl
  have h2 := C.join_d l C.zero (Int.le_refl _) (Int.le_refl _)
  change (C.join l).write = (C.last l).write at h1
  change ((C.join l).d0, (C.join l).d1) = vmax _ at h2
  rw [← h2]
  generalize C.join l = x at *
  generalize C.last l = y at *
  obtain ⟨n, s, v0, v1, g, t, d0, d1⟩ := x
  obtain ⟨n', s', v0', v1', g', t', d0', d1'⟩ := y
  simp only [C.write, C.bury, C.mk.injEq, and_true] at h1 ⊢
  simp [h1]
end Go.Proofs.Ytfoklfifgmacfaa
