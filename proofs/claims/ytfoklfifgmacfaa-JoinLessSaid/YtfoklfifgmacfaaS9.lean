/- The join of two cells by the document, walked. -/
import Derived.Test.YtfoklfifgmacfaaS8
namespace Go.Proofs.Ytfoklfifgmacfaa
open Go.RowKit
theorem IsC.setD {w : World} {b : Nat} {x : C} (h : IsC w b x) (p q : Int) : IsC ((w.setCell ⟨b, 6, none⟩ (.int .i64 p)).setCell ⟨b, 7, none⟩ (.int .i64 q)) b (x.bury p q) := by
  have h1 := heap_setCell_at (i := 7) (v := .int .i64 q) (heap_setCell_at (i := 6) (v := .int .i64 p) h)
  simp only [List.setIfInBounds_toArray, List.set_cons_zero, List.set_cons_succ] at h1
  exact h1
theorem Keep.setD (w : World) (b : Nat) (p q : Int) : Keep (fun i => i = b) w ((w.setCell ⟨b, 6, none⟩ (.int .i64 p)).setCell ⟨b, 7, none⟩ (.int .i64 q)) := by
  repeat (refine Keep.trans ?_ (Keep.setCell (S := fun i => i = b) _ _ (show b = b from rfl)))
  exact Keep.refl _ _
set_option maxHeartbeats 2000000 in
set_option maxRecDepth 100000 in
theorem rtwo_at (xn xs xv0 xv1 : Int) (xg : Bool) (xt : ByteArray) (xd0 xd1 : Int) (yn ys yv0 yv1 : Int) (yg : Bool) (yt : ByteArray) (yd0 yd1 : Int) (w : World) :
    Calls Try.prog 26 #[.agg #[.int .i64 xn, .int .i64 xs, .int .i64 xv0, .int .i64 xv1, .bool xg, .string xt, .int .i64 xd0, .int .i64 xd1], .agg #[.int .i64 yn, .int .i64 ys, .int .i64 yv0, .int .i64 yv1, .bool yg, .string yt, .int .i64 yd0, .int .i64 yd1]] w fun e w' => e = .returned (C.two ⟨xn, xs, xv0, xv1, xg, xt, xd0, xd1⟩ ⟨yn, ys, yv0, yv1, yg, yt, yd0, yd1⟩).v ∧ Keep (fun _ => False) w w' := by
  obtain ⟨m1, hm1⟩ : ∃ z, z = max (max 0 xd0) yd0 := ⟨_, rfl⟩
  obtain ⟨m2, hm2⟩ : ∃ z, z = max (max 0 xd1) yd1 := ⟨_, rfl⟩
  have HT : Hid (∀ w, Calls Try.prog 35 #[.agg #[.int .i64 xd0, .int .i64 xd1], .agg #[.int .i64 yd0, .int .i64 yd1]] w fun e w' => e = .returned (.agg #[.int .i64 m1, .int .i64 m2]) ∧ Keep (fun _ => False) w w') := by
    intro w; rw [hm1, hm2]; exact rvtwo_any xd0 xd1 yd0 yd1 w
  have HV : Hid (C.two ⟨xn, xs, xv0, xv1, xg, xt, xd0, xd1⟩ ⟨yn, ys, yv0, yv1, yg, yt, yd0, yd1⟩ = (if C.less ⟨xn, xs, xv0, xv1, xg, xt, xd0, xd1⟩ ⟨yn, ys, yv0, yv1, yg, yt, yd0, yd1⟩ = true then (⟨yn, ys, yv0, yv1, yg, yt, m1, m2⟩ : C) else ⟨xn, xs, xv0, xv1, xg, xt, m1, m2⟩)) := by
    rw [Hid, hm1, hm2]; unfold C.two; split <;> rfl
  rw [HV.out]
  clear hm1 hm2 HV
  have HL : Hid (∀ w, Calls Try.prog 11 #[.agg #[.int .i64 xn, .int .i64 xs, .int .i64 xv0, .int .i64 xv1, .bool xg, .string xt, .int .i64 xd0, .int .i64 xd1], .agg #[.int .i64 yn, .int .i64 ys, .int .i64 yv0, .int .i64 yv1, .bool yg, .string yt, .int .i64 yd0, .int .i64 yd1]] w fun e w' => e = .returned (.bool (C.less ⟨xn, xs, xv0, xv1, xg, xt, xd0, xd1⟩ ⟨yn, ys, yv0, yv1, yg, yt, yd0, yd1⟩)) ∧ Keep (fun _ => False) w w') := fun w => rless_any xn xs xv0 xv1 xg xt xd0 xd1 yn ys yv0 yv1 yg yt yd0 yd1 w
  generalize C.less ⟨xn, xs, xv0, xv1, xg, xt, xd0, xd1⟩ ⟨yn, ys, yv0, yv1, yg, yt, yd0, yd1⟩ = lb at *
  go_enter Try.func26, Try.ntmps26
  go_upto_region 2 with fail
  obtain ⟨r, hr⟩ : ∃ r, r = w.heap.size := ⟨_, rfl⟩
  rw [← hr]
  generalize hw1 : w.alloc (Obj.cells #[.int .i64 xn, .int .i64 xs, .int .i64 xv0, .int .i64 xv1, .bool xg, .string xt, .int .i64 xd0, .int .i64 xd1] 27) = w1
  generalize hw2 : w1.alloc (Obj.cells #[.int .i64 yn, .int .i64 ys, .int .i64 yv0, .int .i64 yv1, .bool yg, .string yt, .int .i64 yd0, .int .i64 yd1] 27) = w2
  generalize hw3 : w2.alloc (Obj.cells #[.int .i64 0, .int .i64 0, .int .i64 0, .int .i64 0, .bool false, .string ⟨#[]⟩, .int .i64 0, .int .i64 0] 27) = w3
  generalize hw4 : w3.alloc (Obj.cells #[.int .i64 xn, .int .i64 xs, .int .i64 xv0, .int .i64 xv1, .bool xg, .string xt, .int .i64 xd0, .int .i64 xd1] 27) = w4
  have s1 : w1.heap.size = r + 1 := by rw [← hw1, hr]; simp
  have s2 : w2.heap.size = r + 1 + 1 := by rw [← hw2, ← s1]; simp
  have s3 : w3.heap.size = r + 1 + 1 + 1 := by rw [← hw3, ← s2]; simp
  have k4 : Keep (fun _ => False) w3 w4 := by rw [← hw4]; exact Keep.alloc _ _ _
  have k3 : Keep (fun _ => False) w2 w3 := by rw [← hw3]; exact Keep.alloc _ _ _
  have k2 : Keep (fun _ => False) w1 w2 := by rw [← hw2]; exact Keep.alloc _ _ _
  have k1 : Keep (fun _ => False) w w1 := by rw [← hw1]; exact Keep.alloc _ _ _
  have H1 : Hid (IsC w4 r ⟨xn, xs, xv0, xv1, xg, xt, xd0, xd1⟩) := by have : IsC w1 r ⟨xn, xs, xv0, xv1, xg, xt, xd0, xd1⟩ := (by rw [← hw1, hr]; exact IsC.new w ⟨xn, xs, xv0, xv1, xg, xt, xd0, xd1⟩); exact ((this.keep0 k2).keep0 k3).keep0 k4
  have H2 : Hid (IsC w4 (r + 1) ⟨yn, ys, yv0, yv1, yg, yt, yd0, yd1⟩) := by have : IsC w2 (r + 1) ⟨yn, ys, yv0, yv1, yg, yt, yd0, yd1⟩ := (by rw [← hw2, ← s1]; exact IsC.new w1 ⟨yn, ys, yv0, yv1, yg, yt, yd0, yd1⟩); exact (this.keep0 k3).keep0 k4
  have H3 : Hid (IsC w4 (r + 1 + 1) C.zero) := by have : IsC w3 (r + 1 + 1) C.zero := (by rw [← hw3, ← s2]; exact IsC.new w2 C.zero); exact this.keep0 k4
  have H4 : Hid (IsC w4 (r + 1 + 1 + 1) ⟨xn, xs, xv0, xv1, xg, xt, xd0, xd1⟩) := by rw [← hw4, ← s3]; exact IsC.new w3 ⟨xn, xs, xv0, xv1, xg, xt, xd0, xd1⟩
  have K0 : Hid (Keep (fun _ => False) w w4) := ((k1.trans k2).trans k3).trans k4
  have HR := Lib.hid hr
  clear hw1 hw2 hw3 hw4 s1 s2 s3 k1 k2 k3 k4 hr
  obtain ⟨c0, c1, c2, c3, c4, c5, c6, c7⟩ := H1.out.cells
  obtain ⟨e0, e1, e2, e3, e4, e5, e6, e7⟩ := H2.out.cells
  dsimp only at c0 c1 c2 c3 c4 c5 c6 c7 e0 e1 e2 e3 e4 e5 e6 e7
  cases lb
  · go_upto_region 4 with (go_at_call 11; refine (HL.out _).mono ?_; rintro e w5 ⟨rfl, hk⟩; have HK5 := Lib.hid (K0.out.trans hk); have J1 := Lib.hid (H1.out.keep0 hk); have J2 := Lib.hid (H2.out.keep0 hk); have J3 := Lib.hid (H3.out.keep0 hk); have J4 := Lib.hid (H4.out.keep0 hk); clear hk H1 H2 H3 H4 K0 c0 c1 c2 c3 c4 c5 c6 c7 e0 e1 e2 e3 e4 e5 e6 e7; obtain ⟨c0, c1, c2, c3, c4, c5, c6, c7⟩ := J1.out.cells; obtain ⟨e0, e1, e2, e3, e4, e5, e6, e7⟩ := J2.out.cells; obtain ⟨f0, f1, f2, f3, f4, f5, f6, f7⟩ := J4.out.cells; have fz := J4.out.free; dsimp only at c0 c1 c2 c3 c4 c5 c6 c7 e0 e1 e2 e3 e4 e5 e6 e7 f0 f1 f2 f3 f4 f5 f6 f7)
    clear f0 f1 f2 f3 f4 f5 f6 f7 fz
    have P3 := J3
    have P4 := J4
    have PK := HK5
    clear J1 J2 J3 J4 HK5
    go_upto_region 5 with (go_at_call 35; refine (HT.out _).mono ?_; rintro e w6 ⟨rfl, hk⟩; have HK6 := Lib.hid (PK.out.trans hk); have Q3 := Lib.hid (P3.out.keep0 hk); have Q4 := Lib.hid (P4.out.keep0 hk); clear hk P3 P4 PK c0 c1 c2 c3 c4 c5 c6 c7 e0 e1 e2 e3 e4 e5 e6 e7; obtain ⟨f0, f1, f2, f3, f4, f5, f6, f7⟩ := Q4.out.cells; have fz := Q4.out.free; dsimp only at f0 f1 f2 f3 f4 f5 f6 f7)
    clear f0 f1 f2 f3 f4 f5 f6 f7 fz
    generalize hwt : World.setCell _ { block := r + 1 + 1 + 1, off := 7 } (Value.int IntKind.i64 m2) = wu
    have kt : Keep (fun i => i = r + 1 + 1 + 1) w6 wu := by rw [← hwt]; exact Keep.setD w6 _ m1 m2
    have R3 := Lib.hid (Q3.out.keep kt (by omega))
    have R4 : Hid (IsC wu (r + 1 + 1 + 1) ⟨xn, xs, xv0, xv1, xg, xt, m1, m2⟩) := by rw [← hwt]; exact Q4.out.setD m1 m2
    have RK : Hid (Keep (fun _ => False) w wu) := HK6.out.step kt (fun i hi => .inr (by have := HR.out; omega))
    clear hwt kt Q3 Q4 HK6
    obtain ⟨c0, c1, c2, c3, c4, c5, c6, c7⟩ := R4.out.cells
    obtain ⟨e0, e1, e2, e3, e4, e5, e6, e7⟩ := R3.out.cells
    have fz := R3.out.free
    dsimp only [C.zero] at c0 c1 c2 c3 c4 c5 c6 c7 e0 e1 e2 e3 e4 e5 e6 e7
    go_wp2_with fail
    exact bodyPost_ret (v := .agg #[.int .i64 xn, .int .i64 xs, .int .i64 xv0, .int .i64 xv1, .bool xg, .string xt, .int .i64 m1, .int .i64 m2]) (by simp [results, Try.results26, go_sem, *]) rfl
      ⟨rfl, RK.out.step (Keep.set8 wu (r + 1 + 1) ⟨xn, xs, xv0, xv1, xg, xt, m1, m2⟩) (fun i hi => .inr (by have := HR.out; omega))⟩
  · go_upto_region 4 with (go_at_call 11; refine (HL.out _).mono ?_; rintro e w5 ⟨rfl, hk⟩; have HK5 := Lib.hid (K0.out.trans hk); have J1 := Lib.hid (H1.out.keep0 hk); have J2 := Lib.hid (H2.out.keep0 hk); have J3 := Lib.hid (H3.out.keep0 hk); have J4 := Lib.hid (H4.out.keep0 hk); clear hk H1 H2 H3 H4 K0 c0 c1 c2 c3 c4 c5 c6 c7 e0 e1 e2 e3 e4 e5 e6 e7; obtain ⟨c0, c1, c2, c3, c4, c5, c6, c7⟩ := J1.out.cells; obtain ⟨e0, e1, e2, e3, e4, e5, e6, e7⟩ := J2.out.cells; obtain ⟨f0, f1, f2, f3, f4, f5, f6, f7⟩ := J4.out.cells; have fz := J4.out.free; dsimp only at c0 c1 c2 c3 c4 c5 c6 c7 e0 e1 e2 e3 e4 e5 e6 e7 f0 f1 f2 f3 f4 f5 f6 f7)
    clear f0 f1 f2 f3 f4 f5 f6 f7 fz
    clear c0 c1 c2 c3 c4 c5 c6 c7 e0 e1 e2 e3 e4 e5 e6 e7
    generalize hwt : World.setCell _ { block := r + 1 + 1 + 1, off := 7 } (Value.int IntKind.i64 yd1) = wt
    have kt : Keep (fun i => i = r + 1 + 1 + 1) w5 wt := by rw [← hwt]; exact Keep.set8 w5 (r + 1 + 1 + 1) ⟨yn, ys, yv0, yv1, yg, yt, yd0, yd1⟩
    have P1 := Lib.hid (J1.out.keep kt (by omega))
    have P2 := Lib.hid (J2.out.keep kt (by omega))
    have P3 := Lib.hid (J3.out.keep kt (by omega))
    have P4 : Hid (IsC wt (r + 1 + 1 + 1) ⟨yn, ys, yv0, yv1, yg, yt, yd0, yd1⟩) := by rw [← hwt]; exact J4.out.set ⟨yn, ys, yv0, yv1, yg, yt, yd0, yd1⟩
    have PK : Hid (Keep (fun _ => False) w wt) := HK5.out.step kt (fun i hi => .inr (by have := HR.out; omega))
    clear hwt kt J1 J2 J3 J4 HK5
    obtain ⟨c0, c1, c2, c3, c4, c5, c6, c7⟩ := P1.out.cells
    obtain ⟨e0, e1, e2, e3, e4, e5, e6, e7⟩ := P2.out.cells
    dsimp only at c0 c1 c2 c3 c4 c5 c6 c7 e0 e1 e2 e3 e4 e5 e6 e7
    go_upto_region 5 with (go_at_call 35; refine (HT.out _).mono ?_; rintro e w6 ⟨rfl, hk⟩; have HK6 := Lib.hid (PK.out.trans hk); have Q3 := Lib.hid (P3.out.keep0 hk); have Q4 := Lib.hid (P4.out.keep0 hk); clear hk P3 P4 PK c0 c1 c2 c3 c4 c5 c6 c7 e0 e1 e2 e3 e4 e5 e6 e7; obtain ⟨f0, f1, f2, f3, f4, f5, f6, f7⟩ := Q4.out.cells; have fz := Q4.out.free; dsimp only at f0 f1 f2 f3 f4 f5 f6 f7)
    clear f0 f1 f2 f3 f4 f5 f6 f7 fz
    generalize hwt : World.setCell _ { block := r + 1 + 1 + 1, off := 7 } (Value.int IntKind.i64 m2) = wu
    have kt : Keep (fun i => i = r + 1 + 1 + 1) w6 wu := by rw [← hwt]; exact Keep.setD w6 _ m1 m2
    have R3 := Lib.hid (Q3.out.keep kt (by omega))
    have R4 : Hid (IsC wu (r + 1 + 1 + 1) ⟨yn, ys, yv0, yv1, yg, yt, m1, m2⟩) := by rw [← hwt]; exact Q4.out.setD m1 m2
    have RK : Hid (Keep (fun _ => False) w wu) := HK6.out.step kt (fun i hi => .inr (by have := HR.out; omega))
    clear hwt kt Q3 Q4 HK6
    obtain ⟨c0, c1, c2, c3, c4, c5, c6, c7⟩ := R4.out.cells
    obtain ⟨e0, e1, e2, e3, e4, e5, e6, e7⟩ := R3.out.cells
    have fz := R3.out.free
    dsimp only [C.zero] at c0 c1 c2 c3 c4 c5 c6 c7 e0 e1 e2 e3 e4 e5 e6 e7
    go_wp2_with fail
    exact bodyPost_ret (v := .agg #[.int .i64 yn, .int .i64 ys, .int .i64 yv0, .int .i64 yv1, .bool yg, .string yt, .int .i64 m1, .int .i64 m2]) (by simp [results, Try.results26, go_sem, *]) rfl
      ⟨rfl, RK.out.step (Keep.set8 wu (r + 1 + 1) ⟨yn, ys, yv0, yv1, yg, yt, m1, m2⟩) (fun i hi => .inr (by have := HR.out; omega))⟩
end Go.Proofs.Ytfoklfifgmacfaa
