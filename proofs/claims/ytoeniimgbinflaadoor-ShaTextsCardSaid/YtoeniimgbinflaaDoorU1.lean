/- A digit's value; what a text reads as, in plain numbers. -/
import Derived.Test.YtoeniimgbinflaaDoorLS
namespace Go.Proofs.YtoeniimgbinflaaDoor
open Go.RowKit
/-- What a digit says. -/
def dv (c : UInt8) : Option Nat := if 48 ≤ c.toNat ∧ c.toNat ≤ 57 then some (c.toNat - 48) else if 97 ≤ c.toNat ∧ c.toNat ≤ 102 then some (c.toNat - 97 + 10) else none
theorem dv_lt {c : UInt8} {k : Nat} (h : dv c = some k) : k < 16 := by
  unfold dv at h
  split at h
  · simp only [Option.some.injEq] at h; omega
  · split at h
    · simp only [Option.some.injEq] at h; omega
    · cases h
theorem dv_hex : ∀ k : Fin 16, dv (hexd k.val) = some k.val := by decide +kernel
theorem hex_dv : ∀ c : Fin 256, ∀ k : Fin 16, dv (UInt8.ofNat c.val) = some k.val → hexd k.val = UInt8.ofNat c.val := by decide +kernel
theorem hexd_dv {c : UInt8} {k : Nat} (h : dv c = some k) : hexd k = c := by
  have hk := dv_lt h
  have hc := UInt8.toNat_lt c
  have e : UInt8.ofNat c.toNat = c := UInt8.ofNat_toNat
  have := hex_dv ⟨c.toNat, hc⟩ ⟨k, hk⟩ (by dsimp only; rw [e]; exact h)
  dsimp only at this
  rw [this, e]
def nib (l : List UInt8) (k : Nat) : Nat := (dv (l.getD k 0)).getD 0
theorem nib_lt (l : List UInt8) (k : Nat) : nib l k < 16 := by
  unfold nib
  cases h : dv (l.getD k 0) with
  | none => decide
  | some v => exact dv_lt h
/-- Byte j, as long as i digits are read. -/
def rb (l : List UInt8) (i j : Nat) : UInt8 := if 2 * j + 1 < i then UInt8.ofNat (16 * nib l (2 * j) + nib l (2 * j + 1)) else if 2 * j < i then UInt8.ofNat (nib l (2 * j)) else 0
def rcs (l : List UInt8) (i : Nat) : List UInt8 := (List.range 32).map (rb l i)
theorem rcs_length (l : List UInt8) (i : Nat) : (rcs l i).length = 32 := by simp [rcs]
theorem rcs_zero (l : List UInt8) : rcs l 0 = List.replicate 32 0 := by
  unfold rcs
  rw [show (rb l 0) = fun _ => 0 from funext fun j => by unfold rb; rw [if_neg (by omega), if_neg (by omega)]]
  rfl
theorem rcs_at (l : List UInt8) (i j : Nat) (h : j < 32) : (rcs l i)[j]? = some (rb l i j) := by
  unfold rcs
  rw [List.getElem?_map, List.getElem?_range h]; rfl
/-- What one more digit makes of its byte. -/
theorem rb_step (l : List UInt8) (i : Nat) : ((rb l i (i / 2)).toNat * 16 % 256 ||| nib l i) = (rb l (i + 1) (i / 2)).toNat ∧ (rb l i (i / 2)).toNat * 16 % 256 + nib l i = (rb l (i + 1) (i / 2)).toNat := by
  have hn := nib_lt l i
  have hor : ∀ a b : Nat, b < 16 → (a * 16 ||| b) = a * 16 + b := fun a b hb => by
    have := Nat.two_pow_add_eq_or_of_lt (i := 4) (b := b) hb a
    rw [Nat.mul_comm a 16, ← this]
  by_cases h : i % 2 = 0
  · have e1 : rb l i (i / 2) = 0 := by unfold rb; rw [if_neg (by omega), if_neg (by omega)]
    have e2 : rb l (i + 1) (i / 2) = UInt8.ofNat (nib l i) := by unfold rb; rw [if_neg (by omega), if_pos (by omega), show 2 * (i / 2) = i by omega]
    rw [e1, e2, UInt8.toNat_ofNat']
    have : (0 : UInt8).toNat = 0 := rfl
    rw [this]
    constructor
    · rw [Nat.zero_mul, Nat.zero_mod, Nat.zero_or]; omega
    · omega
  · have hm := nib_lt l (i - 1)
    have e1 : rb l i (i / 2) = UInt8.ofNat (nib l (i - 1)) := by unfold rb; rw [if_neg (by omega), if_pos (by omega), show 2 * (i / 2) = i - 1 by omega]
    have e2 : rb l (i + 1) (i / 2) = UInt8.ofNat (16 * nib l (i - 1) + nib l i) := by unfold rb; rw [if_pos (by omega), show 2 * (i / 2) = i - 1 by omega, show i - 1 + 1 = i by omega]
    rw [e1, e2, UInt8.toNat_ofNat', UInt8.toNat_ofNat']
    rw [show nib l (i - 1) % 2 ^ 8 = nib l (i - 1) by omega, show nib l (i - 1) * 16 % 256 = nib l (i - 1) * 16 by omega]
    constructor
    · rw [hor _ _ hn]; omega
    · omega
theorem rb_other (l : List UInt8) (i j : Nat) (h : j ≠ i / 2) : rb l (i + 1) j = rb l i j := by
  unfold rb
  by_cases h1 : 2 * j + 1 < i
  · rw [if_pos (by omega), if_pos h1]
  · rw [if_neg (by omega), if_neg h1]
    by_cases h2 : 2 * j < i
    · omega
    · rw [if_neg (by omega), if_neg h2]
theorem rcs_set (l : List UInt8) (i : Nat) (h : i < 64) : (bv (rcs l i)).set (i / 2) (.int .u8 ((rb l (i + 1) (i / 2)).toNat : Int)) = bv (rcs l (i + 1)) := by
  refine List.ext_getElem? fun j => ?_
  rw [List.getElem?_set]
  by_cases hj : j < 32
  · have e : ∀ k, (bv (rcs l k))[j]? = some (.int .u8 ((rb l k j).toNat : Int)) := fun k => by unfold bv; rw [List.getElem?_map, rcs_at l k j hj]; rfl
    rw [e, e]
    by_cases hij : i / 2 = j
    · rw [if_pos hij, if_pos (by rw [bv_length, rcs_length]; omega), hij]
    · rw [if_neg hij, rb_other l i j (fun h => hij h.symm)]
  · rw [if_neg (by omega), List.getElem?_eq_none (by rw [bv_length, rcs_length]; omega), List.getElem?_eq_none (by rw [bv_length, rcs_length]; omega)]
/-- Is it a text of 64 digits? -/
def Hexes (l : List UInt8) : Prop := l.length = 64 ∧ ∀ k, k < 64 → (dv (l.getD k 0)).isSome
theorem txt_at (d : List UInt8) (j : Nat) (h : j < d.length) : (txt d).getD (2 * j) 0 = hexd ((d.getD j 0).toNat / 16) ∧ (txt d).getD (2 * j + 1) 0 = hexd ((d.getD j 0).toNat % 16) := by
  induction d generalizing j with
  | nil => simp at h
  | cons x d ih =>
    rw [show txt (x :: d) = hexd (x.toNat / 16) :: hexd (x.toNat % 16) :: txt d from rfl]
    cases j with
    | zero => exact ⟨rfl, rfl⟩
    | succ j =>
      have := ih j (by simpa using h)
      rw [show 2 * (j + 1) = 2 * j + 1 + 1 by omega, show 2 * j + 1 + 1 + 1 = 2 * j + 1 + 1 + 1 from rfl]
      simpa using this
theorem txt_hexes (d : List UInt8) (h : d.length = 32) : Hexes (txt d) := by
  refine ⟨by rw [txt_length, h], fun k hk => ?_⟩
  have hx := UInt8.toNat_lt (d.getD (k / 2) 0)
  obtain ⟨h1, h2⟩ := txt_at d (k / 2) (by omega)
  by_cases hm : k % 2 = 0
  · rw [show k = 2 * (k / 2) by omega, h1]
    have := dv_hex ⟨(d.getD (k / 2) 0).toNat / 16, by omega⟩
    dsimp only at this
    rw [this]; rfl
  · rw [show k = 2 * (k / 2) + 1 by omega, h2]
    have := dv_hex ⟨(d.getD (k / 2) 0).toNat % 16, by omega⟩
    dsimp only at this
    rw [this]; rfl
theorem rcs_txt (d : List UInt8) (h : d.length = 32) : rcs (txt d) 64 = d := by
  refine List.ext_getElem? fun j => ?_
  by_cases hj : j < 32
  · obtain ⟨h1, h2⟩ := txt_at d j (by omega)
    have hx := UInt8.toNat_lt (d.getD j 0)
    rw [rcs_at _ _ _ hj, List.getElem?_eq_getElem (by omega)]
    congr 1
    have e1 : nib (txt d) (2 * j) = (d.getD j 0).toNat / 16 := by
      unfold nib
      rw [h1]
      have := dv_hex ⟨(d.getD j 0).toNat / 16, by omega⟩
      dsimp only at this
      rw [this]; rfl
    have e2 : nib (txt d) (2 * j + 1) = (d.getD j 0).toNat % 16 := by
      unfold nib
      rw [h2]
      have := dv_hex ⟨(d.getD j 0).toNat % 16, by omega⟩
      dsimp only at this
      rw [this]; rfl
    unfold rb
    rw [if_pos (by omega), e1, e2, show 16 * ((d.getD j 0).toNat / 16) + (d.getD j 0).toNat % 16 = (d.getD j 0).toNat by omega, UInt8.ofNat_toNat, List.getD_eq_getElem?_getD, List.getElem?_eq_getElem (by omega)]
    rfl
  · rw [List.getElem?_eq_none (by rw [rcs_length]; omega), List.getElem?_eq_none (by omega)]
theorem txt_rcs (l : List UInt8) (h : Hexes l) : txt (rcs l 64) = l := by
  obtain ⟨hl, hs⟩ := h
  have key : ∀ k, k < 64 → hexd (nib l k) = l.getD k 0 := fun k hk => by
    obtain ⟨v, hv⟩ := Option.isSome_iff_exists.1 (hs k hk)
    unfold nib
    rw [hv]
    exact hexd_dv hv
  refine List.ext_getElem? fun k => ?_
  by_cases hk : k < 64
  · have e : ∀ m : List UInt8, m.length = 64 → m[k]? = some (m.getD k 0) := fun m hm => by rw [List.getD_eq_getElem?_getD, List.getElem?_eq_getElem (by omega)]; rfl
    rw [e _ (by rw [txt_length, rcs_length]), e l hl]
    congr 1
    obtain ⟨j, hj, hkj⟩ : ∃ j, j < 32 ∧ (k = 2 * j ∨ k = 2 * j + 1) := ⟨k / 2, by omega, by omega⟩
    obtain ⟨h1, h2⟩ := txt_at (rcs l 64) j (by rw [rcs_length]; exact hj)
    have hb : (rcs l 64).getD j 0 = UInt8.ofNat (16 * nib l (2 * j) + nib l (2 * j + 1)) := by
      rw [List.getD_eq_getElem?_getD, rcs_at _ _ _ hj]
      unfold rb
      rw [if_pos (by omega)]; rfl
    have n1 := nib_lt l (2 * j)
    have n2 := nib_lt l (2 * j + 1)
    have k1 := key (2 * j) (by omega)
    have k2 := key (2 * j + 1) (by omega)
    rw [hb, UInt8.toNat_ofNat'] at h1 h2
    generalize nib l (2 * j) = a at *
    generalize nib l (2 * j + 1) = b at *
    rw [show (16 * a + b) % 2 ^ 8 / 16 = a by omega] at h1
    rw [show (16 * a + b) % 2 ^ 8 % 16 = b by omega] at h2
    rcases hkj with rfl | rfl
    · rw [h1, k1]
    · rw [h2, k2]
  · rw [List.getElem?_eq_none (by rw [txt_length, rcs_length]; omega), List.getElem?_eq_none (by omega)]
end Go.Proofs.YtoeniimgbinflaaDoor
