/- The last of cells, walked. -/
import Derived.Test.YtfoklfifgmacfaaK1
namespace Go.Proofs.Ytfoklfifgmacfaa
open Go.RowKit
theorem last_step (l : List C) (k : Nat) (x : C) (h : l[k]? = some x) : C.last (l.take (k + 1)) = if (C.last (l.take k)).less x = true then x else C.last (l.take k) := by
  unfold C.last
  rw [List.take_add_one, h, List.foldl_append]; rfl
set_option maxHeartbeats 1000000 in
theorem less24_any (xn xs xv0 xv1 : Int) (xg : Bool) (xt : ByteArray) (xd0 xd1 : Int) (yn ys yv0 yv1 : Int) (yg : Bool) (yt : ByteArray) (yd0 yd1 : Int) (w : World) :
    Calls Try.prog 24 #[.agg #[.int .i64 xn, .int .i64 xs, .int .i64 xv0, .int .i64 xv1, .bool xg, .string xt, .int .i64 xd0, .int .i64 xd1], .agg #[.int .i64 yn, .int .i64 ys, .int .i64 yv0, .int .i64 yv1, .bool yg, .string yt, .int .i64 yd0, .int .i64 yd1]] w fun e w' => e = .returned (.bool (C.less ⟨xn, xs, xv0, xv1, xg, xt, xd0, xd1⟩ ⟨yn, ys, yv0, yv1, yg, yt, yd0, yd1⟩)) ∧ Keep (fun _ => False) w w' := by
  have HL : Hid (∀ w, Calls Try.prog 10 #[.agg #[.int .i64 xn, .int .i64 xs, .int .i64 xv0, .int .i64 xv1, .bool xg, .string xt, .int .i64 xd0, .int .i64 xd1], .agg #[.int .i64 yn, .int .i64 ys, .int .i64 yv0, .int .i64 yv1, .bool yg, .string yt, .int .i64 yd0, .int .i64 yd1]] w fun e w' => e = .returned (.bool (C.less ⟨xn, xs, xv0, xv1, xg, xt, xd0, xd1⟩ ⟨yn, ys, yv0, yv1, yg, yt, yd0, yd1⟩)) ∧ Keep (fun _ => False) w w') := fun w => less_any xn xs xv0 xv1 xg xt xd0 xd1 yn ys yv0 yv1 yg yt yd0 yd1 w
  generalize C.less ⟨xn, xs, xv0, xv1, xg, xt, xd0, xd1⟩ ⟨yn, ys, yv0, yv1, yg, yt, yd0, yd1⟩ = lb at *
  go_enter Try.func24, Try.ntmps24
  go_wp2_with (go_at_call 10; refine (HL.out _).mono ?_; rintro e w1 ⟨rfl, hk⟩; have HK := Lib.hid (((Keep.alloc _ _ _).allocR _).trans hk); clear hk)
  go_ret
  exact ⟨rfl, HK.out⟩
set_option maxHeartbeats 1000000 in
theorem last_any (l : List C) (a : Option Addr) (cap : Nat) (w : World) (hl : l.length ≤ 1000) (hc : Cs w a l) :
    Calls Try.prog 23 #[.func (.func 24) #[] #[], .slice a l.length cap] w fun e w' => e = .returned (C.last l).v ∧ Keep (fun _ => False) w w' := by
  obtain ⟨n, hn⟩ : ∃ n, n = l.length := ⟨_, rfl⟩
  rw [← hn] at hl
  rw [← hn]
  have HN := Lib.hid hn
  have HC := Lib.hid hc
  clear hn hc
  go_enter Try.func23, Try.ntmps23
  go_wp2_with fail
  obtain ⟨r, hr⟩ : ∃ r, r = w.heap.size := ⟨_, rfl⟩
  rw [← hr]
  generalize hwa : w.alloc (Obj.cells #[.int .i64 0, .int .i64 0, .int .i64 0, .int .i64 0, .bool false, .string ⟨#[]⟩, .int .i64 0, .int .i64 0] 27) = wa
  have H0 : Hid (IsC wa r C.zero) := by rw [← hwa, hr]; exact IsC.new w C.zero
  have K0 : Hid (Keep (fun _ => False) w wa) := by rw [← hwa]; exact Keep.alloc _ _ _
  have HR := Lib.hid hr
  clear hr hwa
  go_loopw [9] (fun i wr => ∃ k : Nat, k ≤ n ∧ i = .int .i64 k ∧ IsC wr r (C.last (l.take k)) ∧ Keep (fun _ => False) w wr) (fun i _ => n - (intOf i).toNat)
  case atStart => exact ⟨0, by omega, rfl, H0.out, K0.out⟩
  case round =>
    obtain ⟨k, hk, rfl, hst, hkp⟩ := hrel
    have HK := Lib.hid hkp
    have HL := Lib.hid (HC.out.keep0 hkp)
    clear hkp H0 K0
    by_cases hlt : k < n
    · obtain ⟨x, hx⟩ : ∃ x, l[k]? = some x := ⟨_, List.getElem?_eq_getElem (by rw [← HN.out]; exact hlt)⟩
      obtain ⟨b, o, rfl, d0, d1, d2, d3, d4, d5, d6, d7⟩ := HL.out k x hx
      have HS := Lib.hid (last_step l k x hx)
      generalize C.last (l.take k) = y at *
      obtain ⟨yn, ys, yv0, yv1, yg, yt, yd0, yd1⟩ := y
      obtain ⟨xn, xs, xv0, xv1, xg, xt, xd0, xd1⟩ := x
      have HT : Hid (∀ w, Calls Try.prog 24 #[.agg #[.int .i64 yn, .int .i64 ys, .int .i64 yv0, .int .i64 yv1, .bool yg, .string yt, .int .i64 yd0, .int .i64 yd1], .agg #[.int .i64 xn, .int .i64 xs, .int .i64 xv0, .int .i64 xv1, .bool xg, .string xt, .int .i64 xd0, .int .i64 xd1]] w fun e w' => e = .returned (.bool (C.less ⟨yn, ys, yv0, yv1, yg, yt, yd0, yd1⟩ ⟨xn, xs, xv0, xv1, xg, xt, xd0, xd1⟩)) ∧ Keep (fun _ => False) w w') := fun w => less24_any yn ys yv0 yv1 yg yt yd0 yd1 xn xs xv0 xv1 xg xt xd0 xd1 w
      generalize C.less ⟨yn, ys, yv0, yv1, yg, yt, yd0, yd1⟩ ⟨xn, xs, xv0, xv1, xg, xt, xd0, xd1⟩ = lb at *
      have HY := Lib.hid hst
      have hp : (0 : Int) ≤ k := by omega
      have hlt' : (k : Int) < n := by omega
      clear hx hst
      dsimp only at d0 d1 d2 d3 d4 d5 d6 d7
      go_upto_region 4 with fail
      generalize hwx : wr.alloc (Obj.cells #[.int .i64 xn, .int .i64 xs, .int .i64 xv0, .int .i64 xv1, .bool xg, .string xt, .int .i64 xd0, .int .i64 xd1] 27) = wx
      obtain ⟨q, hq⟩ : ∃ q, q = wr.heap.size := ⟨_, rfl⟩
      rw [← hq]
      have kx : Keep (fun _ => False) wr wx := by rw [← hwx]; exact Keep.alloc _ _ _
      have HQ : Hid (IsC wx q ⟨xn, xs, xv0, xv1, xg, xt, xd0, xd1⟩) := by rw [← hwx, hq]; exact IsC.new wr ⟨xn, xs, xv0, xv1, xg, xt, xd0, xd1⟩
      have HY' := Lib.hid (HY.out.keep0 kx)
      have HK' := Lib.hid (HK.out.trans kx)
      obtain ⟨q0, q1, q2, q3, q4, q5, q6, q7⟩ := HQ.out.cells
      obtain ⟨y0, y1, y2, y3, y4, y5, y6, y7⟩ := HY'.out.cells
      dsimp only at q0 q1 q2 q3 q4 q5 q6 q7 y0 y1 y2 y3 y4 y5 y6 y7
      clear hwx hq kx d0 d1 d2 d3 d4 d5 d6 d7 HY HK HL
      cases lb
      · go_wp2_with (go_at_call 24; refine (HT.out _).mono ?_; rintro e w1 ⟨rfl, hk1⟩; have HK1 := Lib.hid (HK'.out.trans hk1); have HY1 := Lib.hid (HY'.out.keep0 hk1); have HQ1 := Lib.hid (HQ.out.keep0 hk1); clear hk1 q0 q1 q2 q3 q4 q5 q6 q7 y0 y1 y2 y3 y4 y5 y6 y7; obtain ⟨q0, q1, q2, q3, q4, q5, q6, q7⟩ := HQ1.out.cells; obtain ⟨y0, y1, y2, y3, y4, y5, y6, y7⟩ := HY1.out.cells; have fz := HY1.out.free; dsimp only at q0 q1 q2 q3 q4 q5 q6 q7 y0 y1 y2 y3 y4 y5 y6 y7)
        go_roundw
        case rel => exact ⟨k + 1, by omega, by go_num, by rw [HS.out, if_neg (by simp)]; exact HY1.out, HK1.out⟩
        case measure => simp [intOf] <;> omega
      · go_wp2_with (go_at_call 24; refine (HT.out _).mono ?_; rintro e w1 ⟨rfl, hk1⟩; have HK1 := Lib.hid (HK'.out.trans hk1); have HY1 := Lib.hid (HY'.out.keep0 hk1); have HQ1 := Lib.hid (HQ.out.keep0 hk1); clear hk1 q0 q1 q2 q3 q4 q5 q6 q7 y0 y1 y2 y3 y4 y5 y6 y7; obtain ⟨q0, q1, q2, q3, q4, q5, q6, q7⟩ := HQ1.out.cells; obtain ⟨y0, y1, y2, y3, y4, y5, y6, y7⟩ := HY1.out.cells; have fz := HY1.out.free; dsimp only at q0 q1 q2 q3 q4 q5 q6 q7 y0 y1 y2 y3 y4 y5 y6 y7)
        go_roundw
        case rel => exact ⟨k + 1, by omega, by go_num, by rw [HS.out, if_pos trivial]; exact HY1.out.set ⟨xn, xs, xv0, xv1, xg, xt, xd0, xd1⟩, HK1.out.step (Keep.set8 w1 r ⟨xn, xs, xv0, xv1, xg, xt, xd0, xd1⟩) (fun i hi => .inr (by have := HR.out; omega))⟩
        case measure => simp [intOf] <;> omega
    · obtain rfl : k = n := by omega
      have hall : l.take k = l := by rw [HN.out]; exact List.take_length
      rw [hall] at hst
      obtain ⟨y, hy⟩ : ∃ y, y = C.last l := ⟨_, rfl⟩
      rw [← hy] at hst
      have HYE := Lib.hid hy
      clear hy
      obtain ⟨yn, ys, yv0, yv1, yg, yt, yd0, yd1⟩ := y
      have HY := Lib.hid hst
      obtain ⟨y0, y1, y2, y3, y4, y5, y6, y7⟩ := hst.cells
      have fz := hst.free
      dsimp only at y0 y1 y2 y3 y4 y5 y6 y7
      clear hst hall HL
      go_wp2_with fail
      exact bodyPost_ret (v := .agg #[.int .i64 yn, .int .i64 ys, .int .i64 yv0, .int .i64 yv1, .bool yg, .string yt, .int .i64 yd0, .int .i64 yd1]) (by simp [results, Try.results23, go_sem, *]) rfl
        ⟨by rw [← HYE.out]; rfl, HK.out.step (Keep.set8 wr r ⟨yn, ys, yv0, yv1, yg, yt, yd0, yd1⟩) (fun i hi => .inr (by have := HR.out; omega))⟩
end Go.Proofs.Ytfoklfifgmacfaa
