/- JoinTells, walked. -/
import Derived.Test.YtfoklfifgmacfaaL1
namespace Go.Proofs.Ytfoklfifgmacfaa
open Go.RowKit
set_option maxHeartbeats 2000000 in
theorem tells_walk (xn xs xv0 xv1 : Int) (xg : Bool) (xt : ByteArray) (xd0 xd1 : Int) (yn ys yv0 yv1 : Int) (yg : Bool) (yt : ByteArray) (yd0 yd1 : Int) (a : Option Addr) (len cap : Nat) (w : World) (hl : len ≤ maxLen) (ha : ∃ l : List C, len = l.length ∧ Cs w a l) :
    Calls Try.prog 3 #[.agg #[.int .i64 xn, .int .i64 xs, .int .i64 xv0, .int .i64 xv1, .bool xg, .string xt, .int .i64 xd0, .int .i64 xd1], .agg #[.int .i64 yn, .int .i64 ys, .int .i64 yv0, .int .i64 yv1, .bool yg, .string yt, .int .i64 yd0, .int .i64 yd1], .slice a len cap] w fun e w' => e = .returned (.bool true) ∧ Below w.heap.size w w' := by
  unfold maxLen at hl
  by_cases hbig : 300 < len
  · have hb : (300 : Int) < len := by omega
    go_enter Try.func3, Try.ntmps3
    go_wp2_with (go_at_call 9; refine (lives_any _).mono ?_; rintro e w1 ⟨rfl, hk⟩; have HK := Lib.hid (((Keep.alloc _ w _).allocR _).trans hk); clear hk)
    go_ret
    exact ⟨rfl, HK.out.below (Nat.le_refl _) (fun _ h => h.elim)⟩
  · obtain ⟨l, hlen, hc⟩ := ha
    have hs : ¬ (300 : Int) < len := by omega
    have hl' : l.length ≤ 1000 := by omega
    have HCs := Lib.hid hc
    have HL : Hid (∀ w, Calls Try.prog 10 #[.agg #[.int .i64 xn, .int .i64 xs, .int .i64 xv0, .int .i64 xv1, .bool xg, .string xt, .int .i64 xd0, .int .i64 xd1], .agg #[.int .i64 yn, .int .i64 ys, .int .i64 yv0, .int .i64 yv1, .bool yg, .string yt, .int .i64 yd0, .int .i64 yd1]] w fun e w' => e = .returned (.bool (C.less ⟨xn, xs, xv0, xv1, xg, xt, xd0, xd1⟩ ⟨yn, ys, yv0, yv1, yg, yt, yd0, yd1⟩)) ∧ Keep (fun _ => False) w w') := fun w => less_any _ _ _ _ _ _ _ _ _ _ _ _ _ _ _ _ w
    have HRL : Hid (∀ w, Calls Try.prog 11 #[.agg #[.int .i64 xn, .int .i64 xs, .int .i64 xv0, .int .i64 xv1, .bool xg, .string xt, .int .i64 xd0, .int .i64 xd1], .agg #[.int .i64 yn, .int .i64 ys, .int .i64 yv0, .int .i64 yv1, .bool yg, .string yt, .int .i64 yd0, .int .i64 yd1]] w fun e w' => e = .returned (.bool (C.less ⟨xn, xs, xv0, xv1, xg, xt, xd0, xd1⟩ ⟨yn, ys, yv0, yv1, yg, yt, yd0, yd1⟩)) ∧ Keep (fun _ => False) w w') := fun w => rless_any _ _ _ _ _ _ _ _ _ _ _ _ _ _ _ _ w
    have HW : Hid (∀ w, Calls Try.prog 14 #[.agg #[.int .i64 xn, .int .i64 xs, .int .i64 xv0, .int .i64 xv1, .bool xg, .string xt, .int .i64 xd0, .int .i64 xd1], .agg #[.int .i64 yn, .int .i64 ys, .int .i64 yv0, .int .i64 yv1, .bool yg, .string yt, .int .i64 yd0, .int .i64 yd1]] w fun e w' => e = .returned (.bool (C.within ⟨xn, xs, xv0, xv1, xg, xt, xd0, xd1⟩ ⟨yn, ys, yv0, yv1, yg, yt, yd0, yd1⟩)) ∧ Keep (fun _ => False) w w') := fun w => within_any _ _ _ _ _ _ _ _ _ _ _ _ _ _ _ _ w
    have HRW : Hid (∀ w, Calls Try.prog 15 #[.agg #[.int .i64 xn, .int .i64 xs, .int .i64 xv0, .int .i64 xv1, .bool xg, .string xt, .int .i64 xd0, .int .i64 xd1], .agg #[.int .i64 yn, .int .i64 ys, .int .i64 yv0, .int .i64 yv1, .bool yg, .string yt, .int .i64 yd0, .int .i64 yd1]] w fun e w' => e = .returned (.bool (C.within ⟨xn, xs, xv0, xv1, xg, xt, xd0, xd1⟩ ⟨yn, ys, yv0, yv1, yg, yt, yd0, yd1⟩)) ∧ Keep (fun _ => False) w w') := fun w => rwithin_any _ _ _ _ _ _ _ _ _ _ _ _ _ _ _ _ w
    have HJ : Hid (∀ w', Keep (fun _ => False) w w' → Calls Try.prog 12 #[.slice a len cap] w' fun e w'' => e = .returned (C.join l).v ∧ Keep (fun _ => False) w' w'') := by intro w' k; rw [hlen]; exact join_any l a cap w' hl' (HCs.out.keep0 k)
    have HRJ : Hid (∀ w', Keep (fun _ => False) w w' → Calls Try.prog 13 #[.slice a len cap] w' fun e w'' => e = .returned (C.join l).v ∧ Keep (fun _ => False) w' w'') := by intro w' k; rw [hlen]; exact rjoin_any l a cap w' hl' (HCs.out.keep0 k)
    generalize C.less ⟨xn, xs, xv0, xv1, xg, xt, xd0, xd1⟩ ⟨yn, ys, yv0, yv1, yg, yt, yd0, yd1⟩ = lb at *
    generalize C.within ⟨xn, xs, xv0, xv1, xg, xt, xd0, xd1⟩ ⟨yn, ys, yv0, yv1, yg, yt, yd0, yd1⟩ = wb at *
    generalize C.join l = z at *
    obtain ⟨zn, zs, zv0, zv1, zg, zt, zd0, zd1⟩ := z
    dsimp only [C.v] at HJ HRJ
    have H27 := fun w => equalIn27 9997 ⟨zn, zs, zv0, zv1, zg, zt, zd0, zd1⟩ ⟨zn, zs, zv0, zv1, zg, zt, zd0, zd1⟩ w
    simp only [decide_true] at H27
    clear hl' hc hlen
    go_enter Try.func3, Try.ntmps3
    go_upto_region 3 with fail
    obtain ⟨r, hr⟩ : ∃ r, r = w.heap.size := ⟨_, rfl⟩
    rw [← hr]
    generalize hw1 : w.alloc (Obj.cells #[.int .i64 xn, .int .i64 xs, .int .i64 xv0, .int .i64 xv1, .bool xg, .string xt, .int .i64 xd0, .int .i64 xd1] 27) = w1
    generalize hw2 : w1.alloc (Obj.cells #[.int .i64 yn, .int .i64 ys, .int .i64 yv0, .int .i64 yv1, .bool yg, .string yt, .int .i64 yd0, .int .i64 yd1] 27) = w2
    have s1 : w1.heap.size = r + 1 := by rw [← hw1, hr]; simp
    have k2 : Keep (fun _ => False) w1 w2 := by rw [← hw2]; exact Keep.alloc _ _ _
    have k1 : Keep (fun _ => False) w w1 := by rw [← hw1]; exact Keep.alloc _ _ _
    have H1 : Hid (IsC w2 r ⟨xn, xs, xv0, xv1, xg, xt, xd0, xd1⟩) := by have : IsC w1 r ⟨xn, xs, xv0, xv1, xg, xt, xd0, xd1⟩ := (by rw [← hw1, hr]; exact IsC.new w ⟨xn, xs, xv0, xv1, xg, xt, xd0, xd1⟩); exact this.keep0 k2
    have H2 : Hid (IsC w2 (r + 1) ⟨yn, ys, yv0, yv1, yg, yt, yd0, yd1⟩) := by rw [← hw2, ← s1]; exact IsC.new w1 ⟨yn, ys, yv0, yv1, yg, yt, yd0, yd1⟩
    have K0 : Hid (Keep (fun _ => False) w w2) := k1.trans k2
    clear hw1 hw2 s1 k1 k2 hr
    obtain ⟨c0, c1, c2, c3, c4, c5, c6, c7⟩ := H1.out.cells
    obtain ⟨e0, e1, e2, e3, e4, e5, e6, e7⟩ := H2.out.cells
    dsimp only at c0 c1 c2 c3 c4 c5 c6 c7 e0 e1 e2 e3 e4 e5 e6 e7
    have hb1 := H1.out.lt
    have hb2 := H2.out.lt
    have hRl := (Later.rules w2).1
    refine wp_region_later (by kernel_rfl) (by kernel_rfl) ?_
    repeat (refine wpQuiet_step (fun K hK => ?_); go_simp; first | (refine hK _ ?_; clear hK K) | (apply Exists.intro; refine ⟨fun g => ?_, hK _ ?_⟩; (first | (go_at_call 10; exact Later.call (HL.out _)) | (go_at_call 11; exact Later.call (HRL.out _)) | (go_at_call 12; exact Later.call (HJ.out _ (K0.out.trans g.keep))) | (go_at_call 13; exact Later.call (HRJ.out _ (K0.out.trans g.keep))) | (go_at_call 14; exact Later.call (HW.out _)) | (go_at_call 15; exact Later.call (HRW.out _)) | (go_at_call 9; exact Later.call (lives_any _))); clear hK K))
    refine wpQuiet_nil ?_
    intro _ hw'
    obtain ⟨g, hw''⟩ := hw'
    subst hw''
    have HK := Lib.hid (K0.out.trans g.keep)
    go_wp2_with fail
    go_ret
    exact ⟨rfl, HK.out.below (Nat.le_refl _) (fun _ h => h.elim)⟩
end Go.Proofs.Ytfoklfifgmacfaa
