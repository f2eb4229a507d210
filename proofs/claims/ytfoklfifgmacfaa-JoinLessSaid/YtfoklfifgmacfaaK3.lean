/- The join of cells, walked. -/
import Derived.Test.YtfoklfifgmacfaaK2
import Derived.Laws.MakeOwn
import Derived.Laws.OwnMore
namespace Go.Proofs.Ytfoklfifgmacfaa
open Go.RowKit
/-- The vectors of the first k cells, in a row of n. -/
def IsD (w : World) (q n k : Nat) (l : List C) : Prop := ∃ cs, w.heap[q]? = some (.cells cs 25 (0, 0)) ∧ cs.size = n * 2 ∧
  ∀ i x, i < k → l[i]? = some x → cs[i * 2]? = some (.int .i64 x.d0) ∧ cs[i * 2 + 1]? = some (.int .i64 x.d1)
theorem IsD.lt {w : World} {q n k : Nat} {l : List C} (h : IsD w q n k l) : q < w.heap.size := by obtain ⟨_, h, _⟩ := h; exact lt_of_block h
theorem IsD.keep {S : Nat → Prop} {w w' : World} {q n k : Nat} {l : List C} (h : IsD w q n k l) (kp : Keep S w w') (hs : ¬ S q) : IsD w' q n k l := by
  obtain ⟨cs, h1, h2, h3⟩ := h
  exact ⟨cs, kp.heap h1 hs, h2, h3⟩
theorem IsD.room {w : World} {q n k : Nat} {l : List C} (h : IsD w q n k l) {j : Nat} (hj : j < n * 2) : (∃ v, w.cell? ⟨q, j, none⟩ = some v) ∧ w.frozen? ⟨q, j, none⟩ = false := by
  obtain ⟨cs, h1, h2, _⟩ := h
  exact ⟨⟨_, (cell_of h1 j).trans (Array.getElem?_eq_getElem (by omega))⟩, free_of h1 j⟩
theorem IsD.step {w : World} {q n k : Nat} {l : List C} (h : IsD w q n k l) (hk : k < n) (x : C) (hx : l[k]? = some x) : IsD ((w.setCell ⟨q, k * 2, none⟩ (.int .i64 x.d0)).setCell ⟨q, k * 2 + 1, none⟩ (.int .i64 x.d1)) q n (k + 1) l := by
  obtain ⟨cs, h1, h2, h3⟩ := h
  refine ⟨_, heap_setCell_at (heap_setCell_at h1), by simpa using h2, fun i y hi hy => ?_⟩
  by_cases hik : i = k
  · subst hik
    obtain rfl : x = y := Option.some.inj (hx.symm.trans hy)
    refine ⟨?_, ?_⟩
    · rw [Array.getElem?_setIfInBounds_ne (by omega), Array.getElem?_setIfInBounds_self_of_lt (by omega)]
    · rw [Array.getElem?_setIfInBounds_self_of_lt (by simp; omega)]
  · have := h3 i y (by omega) hy
    refine ⟨?_, ?_⟩
    · rw [Array.getElem?_setIfInBounds_ne (by omega), Array.getElem?_setIfInBounds_ne (by omega)]; exact this.1
    · rw [Array.getElem?_setIfInBounds_ne (by omega), Array.getElem?_setIfInBounds_ne (by omega)]; exact this.2
theorem IsD.vs {w : World} {q n : Nat} {l : List C} (h : IsD w q n n l) (hl : n = l.length) : Vs w (some ⟨q, 0, none⟩) (l.map fun x => (x.d0, x.d1)) := by
  obtain ⟨cs, h1, h2, h3⟩ := h
  intro i z hz
  rw [List.getElem?_map, Option.map_eq_some_iff] at hz
  obtain ⟨x, hx, rfl⟩ := hz
  have hi : i < l.length := (List.getElem?_eq_some_iff.1 hx).1
  obtain ⟨a, b⟩ := h3 i x (by omega) hx
  exact ⟨q, 0, rfl, by rw [Nat.zero_add, cell_of h1, a], by rw [Nat.zero_add, cell_of h1, b]⟩
theorem make41 (n : Nat) (hn : n ≤ 1000) (u : World) : (Instr.makeSlice 41 (.int .i64 n) (.int .i64 n)).run Try.prog u = .ok (.slice (some ⟨u.heap.size, 0, none⟩) n n) (u.alloc (.cells (madeCells #[.int .i64 0, .int .i64 0] (n * 2)) 25)) := by
  have := run_makeSlice (P := Try.prog) u 41 25 Try.t25 (.agg #[.int .i64 0, .int .i64 0]) Try.underlying41 (by kernel_rfl) (by kernel_rfl) .i64 .i64 n n (by omega) (Int.le_refl _) (by show (n : Int).toNat * 2 ≤ _; omega) (by show ((16 : Nat) : Int) * n ≤ _; omega) (by omega)
  simpa [show Try.t25.size = 2 from rfl, Value.cells] using this
set_option maxHeartbeats 2000000 in
theorem join_any (l : List C) (a : Option Addr) (cap : Nat) (w : World) (hl : l.length ≤ 1000) (hc : Cs w a l) :
    Calls Try.prog 12 #[.slice a l.length cap] w fun e w' => e = .returned (C.join l).v ∧ Keep (fun _ => False) w w' := by
  have HT : Hid (∀ w, Cs w a l → Calls Try.prog 23 #[.func (.func 24) #[] #[], .slice a l.length cap] w fun e w' => e = .returned (C.last l).v ∧ Keep (fun _ => False) w w') := fun w h => last_any l a cap w hl h
  have HJ := Lib.hid (C.join_eq l)
  obtain ⟨dz, hdz⟩ : ∃ dz, dz = vmax (l.map fun x => (x.d0, x.d1)) := ⟨_, rfl⟩
  rw [← hdz] at HJ
  have HV : Hid (∀ w q cap, Vs w (some ⟨q, 0, none⟩) (l.map fun x => (x.d0, x.d1)) → Calls Try.prog 25 #[.slice (some ⟨q, 0, none⟩) l.length cap] w fun e w' => e = .returned (.agg #[.int .i64 dz.1, .int .i64 dz.2]) ∧ Keep (fun _ => False) w w') := by
    intro w q cap h
    rw [hdz]
    have := vjoin_any (l.map fun x => (x.d0, x.d1)) (some ⟨q, 0, none⟩) cap w (by simpa using hl) h
    rwa [List.length_map] at this
  clear hdz
  obtain ⟨n, hn⟩ : ∃ n, n = l.length := ⟨_, rfl⟩
  rw [← hn] at hl HT HV
  rw [← hn]
  have HN := Lib.hid hn
  have HC := Lib.hid hc
  have MK := make41 n hl
  clear hn hc
  generalize C.last l = x at *
  obtain ⟨xn, xs, xv0, xv1, xg, xt, xd0, xd1⟩ := x
  obtain ⟨e0, e1⟩ := dz
  dsimp only [C.v] at HT HV
  go_enter Try.func12, Try.ntmps12
  go_upto_region 3 with (go_at_call 23; refine (HT.out _ (HC.out.keep0 (Keep.alloc _ _ _))).mono ?_; rintro e w1 ⟨rfl, hk1⟩; have HK1 := Lib.hid hk1; clear hk1)
  obtain ⟨r, hr⟩ : ∃ r, r = w.heap.size := ⟨_, rfl⟩
  rw [← hr]
  obtain ⟨p, hp⟩ : ∃ p, p = w1.heap.size := ⟨_, rfl⟩
  rw [← hp]
  generalize hw2 : w1.alloc (Obj.cells #[.int .i64 xn, .int .i64 xs, .int .i64 xv0, .int .i64 xv1, .bool xg, .string xt, .int .i64 xd0, .int .i64 xd1] 27) = w2
  generalize hw3 : w2.alloc (Obj.cells (madeCells #[Value.int IntKind.i64 0, Value.int IntKind.i64 0] (n * 2)) 25) = w3
  have s1 : w2.heap.size = p + 1 := by rw [← hw2, hp]; simp
  have k0 : Keep (fun _ => False) w w1 := (Keep.alloc _ _ _).trans HK1.out
  have k1 : Keep (fun _ => False) w1 w2 := by rw [← hw2]; exact Keep.alloc _ _ _
  have k2 : Keep (fun _ => False) w2 w3 := by rw [← hw3]; exact Keep.alloc _ _ _
  have hrp : r < p := by
    have h1 : r < (w.alloc (Obj.cells #[.int .i64 0, .int .i64 0, .int .i64 0, .int .i64 0, .bool false, .string ⟨#[]⟩, .int .i64 0, .int .i64 0] 27)).heap.size := by rw [hr]; simp
    have h2 := HK1.out.size
    omega
  have G1 : Hid (IsC w3 r C.zero) := by
    have : IsC w1 r C.zero := (by rw [hr]; exact (IsC.new w C.zero).keep0 HK1.out)
    exact (this.keep0 k1).keep0 k2
  have G2 : Hid (IsC w3 p ⟨xn, xs, xv0, xv1, xg, xt, xd0, xd1⟩) := by
    have : IsC w2 p ⟨xn, xs, xv0, xv1, xg, xt, xd0, xd1⟩ := (by rw [← hw2, hp]; exact IsC.new w1 ⟨xn, xs, xv0, xv1, xg, xt, xd0, xd1⟩)
    exact this.keep0 k2
  have G3 : Hid (IsD w3 (p + 1) n 0 l) := by
    refine ⟨_, by rw [← hw3, ← s1]; exact heap_alloc_new w2 _, size_madeCells _ _, fun i x hi => by omega⟩
  have GK : Hid (Keep (fun _ => False) w w3) := (k0.trans k1).trans k2
  have HR : Hid (r = w.heap.size ∧ r < p) := ⟨hr, hrp⟩
  clear hr hp hw2 hw3 s1 k0 k1 k2 hrp HK1 HT MK
  go_upto_region 4 with fail
  go_loopw [14] (fun i wr => ∃ k : Nat, k ≤ n ∧ i = .int .i64 k ∧ IsC wr r C.zero ∧ IsC wr p ⟨xn, xs, xv0, xv1, xg, xt, xd0, xd1⟩ ∧ IsD wr (p + 1) n k l ∧ Keep (fun _ => False) w wr) (fun i _ => n - (intOf i).toNat)
  case atStart => exact ⟨0, by omega, rfl, G1.out, G2.out, G3.out, GK.out⟩
  case round =>
    obtain ⟨k, hk, rfl, h1, h2, h3, hkp⟩ := hrel
    clear G1 G2 G3 GK
    have HK := Lib.hid hkp
    have H1 := Lib.hid h1
    have H2 := Lib.hid h2
    have H3 := Lib.hid h3
    have HL := Lib.hid (HC.out.keep0 hkp)
    clear hkp h1 h2 h3
    by_cases hlt : k < n
    · obtain ⟨y, hy⟩ : ∃ y, l[k]? = some y := ⟨_, List.getElem?_eq_getElem (by rw [← HN.out]; exact hlt)⟩
      obtain ⟨b, o, rfl, d0, d1, d2, d3, d4, d5, d6, d7⟩ := HL.out k y hy
      obtain ⟨yn, ys, yv0, yv1, yg, yt, yd0, yd1⟩ := y
      have HY := Lib.hid hy
      have hp : (0 : Int) ≤ k := by omega
      have hlt' : (k : Int) < n := by omega
      clear hy
      dsimp only at d0 d1 d2 d3 d4 d5 d6 d7
      go_upto_region 6 with fail
      generalize hwx : wr.alloc (Obj.cells #[.int .i64 yn, .int .i64 ys, .int .i64 yv0, .int .i64 yv1, .bool yg, .string yt, .int .i64 yd0, .int .i64 yd1] 27) = wx
      obtain ⟨q, hq⟩ : ∃ q, q = wr.heap.size := ⟨_, rfl⟩
      rw [← hq]
      have kx : Keep (fun _ => False) wr wx := by rw [← hwx]; exact Keep.alloc _ _ _
      have HQ : Hid (IsC wx q ⟨yn, ys, yv0, yv1, yg, yt, yd0, yd1⟩) := by rw [← hwx, hq]; exact IsC.new wr ⟨yn, ys, yv0, yv1, yg, yt, yd0, yd1⟩
      have J1 := Lib.hid (H1.out.keep0 kx)
      have J2 := Lib.hid (H2.out.keep0 kx)
      have J3 := Lib.hid (H3.out.keep kx (fun h => h))
      have HK' := Lib.hid (HK.out.trans kx)
      obtain ⟨q0, q1, q2, q3, q4, q5, q6, q7⟩ := HQ.out.cells
      dsimp only at q0 q1 q2 q3 q4 q5 q6 q7
      obtain ⟨⟨u0, a0⟩, f0⟩ := J3.out.room (j := k * 2) (by omega)
      obtain ⟨⟨u1, a1⟩, f1⟩ := J3.out.room (j := k * 2 + 1) (by omega)
      clear hwx hq kx d0 d1 d2 d3 d4 d5 d6 d7 H1 H2 H3 HK HL
      go_wp2_with fail
      go_roundw
      case rel =>
        have kt : Keep (fun i => i = p + 1) wx ((wx.setCell ⟨p + 1, k * 2, none⟩ (.int .i64 yd0)).setCell ⟨p + 1, k * 2 + 1, none⟩ (.int .i64 yd1)) := by
          repeat (refine Keep.trans ?_ (Keep.setCell (S := fun i => i = p + 1) _ _ (show p + 1 = p + 1 from rfl)))
          exact Keep.refl _ _
        have hh := HR.out
        exact ⟨k + 1, by omega, by go_num, J1.out.keep kt (by omega), J2.out.keep kt (by omega), J3.out.step hlt ⟨yn, ys, yv0, yv1, yg, yt, yd0, yd1⟩ HY.out, HK'.out.step kt (fun i hi => .inr (by omega))⟩
      case measure => simp [intOf] <;> omega
    · obtain rfl : k = n := by omega
      have HVs := Lib.hid (H3.out.vs HN.out)
      clear H3 HL
      go_upto_region 9 with (go_at_call 25; refine (HV.out _ _ _ HVs.out).mono ?_; rintro e w4 ⟨rfl, hk4⟩; have HK4 := Lib.hid (HK.out.trans hk4); have J1 := Lib.hid (H1.out.keep0 hk4); have J2 := Lib.hid (H2.out.keep0 hk4); clear hk4; obtain ⟨q0, q1, q2, q3, q4, q5, q6, q7⟩ := J2.out.cells; have fz := J2.out.free; dsimp only at q0 q1 q2 q3 q4 q5 q6 q7)
      clear q0 q1 q2 q3 q4 q5 q6 q7 fz H1 H2
      generalize hwt : World.setCell _ { block := p, off := 7 } (Value.int IntKind.i64 e1) = wu
      have kt : Keep (fun i => i = p) w4 wu := by rw [← hwt]; exact Keep.setD w4 _ e0 e1
      have hh := HR.out
      have R1 := Lib.hid (J1.out.keep kt (by omega))
      have R2 : Hid (IsC wu p ⟨xn, xs, xv0, xv1, xg, xt, e0, e1⟩) := by rw [← hwt]; exact J2.out.setD e0 e1
      have RK : Hid (Keep (fun _ => False) w wu) := HK4.out.step kt (fun i hi => .inr (by omega))
      clear hwt kt J1 J2 HK4 hh
      obtain ⟨c0, c1, c2, c3, c4, c5, c6, c7⟩ := R2.out.cells
      obtain ⟨z0, z1, z2, z3, z4, z5, z6, z7⟩ := R1.out.cells
      have fz := R1.out.free
      dsimp only [C.zero] at c0 c1 c2 c3 c4 c5 c6 c7 z0 z1 z2 z3 z4 z5 z6 z7
      go_wp2_with fail
      exact bodyPost_ret (v := .agg #[.int .i64 xn, .int .i64 xs, .int .i64 xv0, .int .i64 xv1, .bool xg, .string xt, .int .i64 e0, .int .i64 e1]) (by simp [results, Try.results12, go_sem, *]) rfl
        ⟨by rw [← HJ.out]; rfl, RK.out.step (Keep.set8 wu r ⟨xn, xs, xv0, xv1, xg, xt, e0, e1⟩) (fun i hi => .inr (by have := HR.out; omega))⟩
end Go.Proofs.Ytfoklfifgmacfaa
