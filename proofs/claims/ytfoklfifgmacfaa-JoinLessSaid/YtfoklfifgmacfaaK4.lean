/- Is a cell within another one: both texts, walked. -/
import Derived.Test.YtfoklfifgmacfaaK3
import Derived.Test.YtfoklfifgmacfaaS3
import Derived.Deep.RegionHeld3
namespace Go.Proofs.Ytfoklfifgmacfaa
open Go.RowKit
theorem cells16 {w : World} {r : Nat} {xn xs xv0 xv1 : Int} {xg : Bool} {xt : ByteArray} {xd0 xd1 : Int} {yn ys yv0 yv1 : Int} {yg : Bool} {yt : ByteArray} {yd0 yd1 : Int} (h1 : IsC w r ⟨xn, xs, xv0, xv1, xg, xt, xd0, xd1⟩) (h2 : IsC w (r + 1) ⟨yn, ys, yv0, yv1, yg, yt, yd0, yd1⟩) :
    w.cell? ⟨r, 0, none⟩ = some (.int .i64 xn) ∧ w.cell? ⟨r, 1, none⟩ = some (.int .i64 xs) ∧ w.cell? ⟨r, 2, none⟩ = some (.int .i64 xv0) ∧ w.cell? ⟨r, 3, none⟩ = some (.int .i64 xv1) ∧ w.cell? ⟨r, 4, none⟩ = some (.bool xg) ∧ w.cell? ⟨r, 5, none⟩ = some (.string xt) ∧ w.cell? ⟨r, 6, none⟩ = some (.int .i64 xd0) ∧ w.cell? ⟨r, 7, none⟩ = some (.int .i64 xd1) ∧ w.cell? ⟨r + 1, 0, none⟩ = some (.int .i64 yn) ∧ w.cell? ⟨r + 1, 1, none⟩ = some (.int .i64 ys) ∧ w.cell? ⟨r + 1, 2, none⟩ = some (.int .i64 yv0) ∧ w.cell? ⟨r + 1, 3, none⟩ = some (.int .i64 yv1) ∧ w.cell? ⟨r + 1, 4, none⟩ = some (.bool yg) ∧ w.cell? ⟨r + 1, 5, none⟩ = some (.string yt) ∧ w.cell? ⟨r + 1, 6, none⟩ = some (.int .i64 yd0) ∧ w.cell? ⟨r + 1, 7, none⟩ = some (.int .i64 yd1) :=
  ⟨cell_of h1 0, cell_of h1 1, cell_of h1 2, cell_of h1 3, cell_of h1 4, cell_of h1 5, cell_of h1 6, cell_of h1 7, cell_of h2 0, cell_of h2 1, cell_of h2 2, cell_of h2 3, cell_of h2 4, cell_of h2 5, cell_of h2 6, cell_of h2 7⟩
theorem cs_two {w : World} {b : Nat} (xn xs xv0 xv1 : Int) (xg : Bool) (xt : ByteArray) (xd0 xd1 : Int) (yn ys yv0 yv1 : Int) (yg : Bool) (yt : ByteArray) (yd0 yd1 : Int) (h : w.heap[b]? = some (.cells #[.int .i64 xn, .int .i64 xs, .int .i64 xv0, .int .i64 xv1, .bool xg, .string xt, .int .i64 xd0, .int .i64 xd1, .int .i64 yn, .int .i64 ys, .int .i64 yv0, .int .i64 yv1, .bool yg, .string yt, .int .i64 yd0, .int .i64 yd1] 27 (0, 0))) :
    Cs w (some ⟨b, 0, none⟩) [⟨xn, xs, xv0, xv1, xg, xt, xd0, xd1⟩, ⟨yn, ys, yv0, yv1, yg, yt, yd0, yd1⟩] := by
  intro i z hz
  match i, hz with
  | 0, hz => simp at hz; subst hz; exact ⟨b, 0, rfl, cell_of h 0, cell_of h 1, cell_of h 2, cell_of h 3, cell_of h 4, cell_of h 5, cell_of h 6, cell_of h 7⟩
  | 1, hz => simp at hz; subst hz; exact ⟨b, 0, rfl, cell_of h 8, cell_of h 9, cell_of h 10, cell_of h 11, cell_of h 12, cell_of h 13, cell_of h 14, cell_of h 15⟩
theorem join_two (xn xs xv0 xv1 : Int) (xg : Bool) (xt : ByteArray) (xd0 xd1 : Int) (yn ys yv0 yv1 : Int) (yg : Bool) (yt : ByteArray) (yd0 yd1 : Int) (b : Nat) (w : World) (h : w.heap[b]? = some (.cells #[.int .i64 xn, .int .i64 xs, .int .i64 xv0, .int .i64 xv1, .bool xg, .string xt, .int .i64 xd0, .int .i64 xd1, .int .i64 yn, .int .i64 ys, .int .i64 yv0, .int .i64 yv1, .bool yg, .string yt, .int .i64 yd0, .int .i64 yd1] 27 (0, 0))) :
    Calls Try.prog 12 #[.slice (some ⟨b, 0, none⟩) 2 2] w fun e w' => e = .returned (C.join [⟨xn, xs, xv0, xv1, xg, xt, xd0, xd1⟩, ⟨yn, ys, yv0, yv1, yg, yt, yd0, yd1⟩]).v ∧ Keep (fun _ => False) w w' :=
  join_any [⟨xn, xs, xv0, xv1, xg, xt, xd0, xd1⟩, ⟨yn, ys, yv0, yv1, yg, yt, yd0, yd1⟩] _ 2 w (by simp) (cs_two _ _ _ _ _ _ _ _ _ _ _ _ _ _ _ _ h)
theorem rjoin_two (xn xs xv0 xv1 : Int) (xg : Bool) (xt : ByteArray) (xd0 xd1 : Int) (yn ys yv0 yv1 : Int) (yg : Bool) (yt : ByteArray) (yd0 yd1 : Int) (b : Nat) (w : World) (h : w.heap[b]? = some (.cells #[.int .i64 xn, .int .i64 xs, .int .i64 xv0, .int .i64 xv1, .bool xg, .string xt, .int .i64 xd0, .int .i64 xd1, .int .i64 yn, .int .i64 ys, .int .i64 yv0, .int .i64 yv1, .bool yg, .string yt, .int .i64 yd0, .int .i64 yd1] 27 (0, 0))) :
    Calls Try.prog 13 #[.slice (some ⟨b, 0, none⟩) 2 2] w fun e w' => e = .returned (C.join [⟨xn, xs, xv0, xv1, xg, xt, xd0, xd1⟩, ⟨yn, ys, yv0, yv1, yg, yt, yd0, yd1⟩]).v ∧ Keep (fun _ => False) w w' :=
  rjoin_any [⟨xn, xs, xv0, xv1, xg, xt, xd0, xd1⟩, ⟨yn, ys, yv0, yv1, yg, yt, yd0, yd1⟩] _ 2 w (by simp) (cs_two _ _ _ _ _ _ _ _ _ _ _ _ _ _ _ _ h)
set_option maxHeartbeats 2000000 in
theorem within_any (xn xs xv0 xv1 : Int) (xg : Bool) (xt : ByteArray) (xd0 xd1 : Int) (yn ys yv0 yv1 : Int) (yg : Bool) (yt : ByteArray) (yd0 yd1 : Int) (w : World) :
    Calls Try.prog 14 #[.agg #[.int .i64 xn, .int .i64 xs, .int .i64 xv0, .int .i64 xv1, .bool xg, .string xt, .int .i64 xd0, .int .i64 xd1], .agg #[.int .i64 yn, .int .i64 ys, .int .i64 yv0, .int .i64 yv1, .bool yg, .string yt, .int .i64 yd0, .int .i64 yd1]] w fun e w' => e = .returned (.bool (C.within ⟨xn, xs, xv0, xv1, xg, xt, xd0, xd1⟩ ⟨yn, ys, yv0, yv1, yg, yt, yd0, yd1⟩)) ∧ Keep (fun _ => False) w w' := by
  unfold C.within
  have HT : Hid (∀ b w, w.heap[b]? = some (.cells #[.int .i64 xn, .int .i64 xs, .int .i64 xv0, .int .i64 xv1, .bool xg, .string xt, .int .i64 xd0, .int .i64 xd1, .int .i64 yn, .int .i64 ys, .int .i64 yv0, .int .i64 yv1, .bool yg, .string yt, .int .i64 yd0, .int .i64 yd1] 27 (0, 0)) → Calls Try.prog 12 #[.slice (some ⟨b, 0, none⟩) 2 2] w fun e w' => e = .returned (C.join [⟨xn, xs, xv0, xv1, xg, xt, xd0, xd1⟩, ⟨yn, ys, yv0, yv1, yg, yt, yd0, yd1⟩]).v ∧ Keep (fun _ => False) w w') := fun b w h => join_two _ _ _ _ _ _ _ _ _ _ _ _ _ _ _ _ b w h
  generalize C.join [⟨xn, xs, xv0, xv1, xg, xt, xd0, xd1⟩, ⟨yn, ys, yv0, yv1, yg, yt, yd0, yd1⟩] = z at *
  obtain ⟨zn, zs, zv0, zv1, zg, zt, zd0, zd1⟩ := z
  dsimp only [C.v] at HT
  have H27 := fun w => equalIn27 9997 ⟨zn, zs, zv0, zv1, zg, zt, zd0, zd1⟩ ⟨yn, ys, yv0, yv1, yg, yt, yd0, yd1⟩ w
  dsimp only at H27
  have HSm : Hid (∀ w, Calls Try.prog 27 #[.agg #[.int .i64 zn, .int .i64 zs, .int .i64 zv0, .int .i64 zv1, .bool zg, .string zt, .int .i64 zd0, .int .i64 zd1], .agg #[.int .i64 yn, .int .i64 ys, .int .i64 yv0, .int .i64 yv1, .bool yg, .string yt, .int .i64 yd0, .int .i64 yd1]] w fun e w' => e = .returned (.bool (decide ((⟨zn, zs, zv0, zv1, zg, zt, zd0, zd1⟩ : C) = ⟨yn, ys, yv0, yv1, yg, yt, yd0, yd1⟩))) ∧ Keep (fun _ => False) w w') := fun w => same_any _ _ _ _ _ _ _ _ _ _ _ _ _ _ _ _ w
  generalize decide ((⟨zn, zs, zv0, zv1, zg, zt, zd0, zd1⟩ : C) = ⟨yn, ys, yv0, yv1, yg, yt, yd0, yd1⟩) = q at *
  go_enter Try.func14, Try.ntmps14
  go_upto_region 1 with fail
  obtain ⟨r, hr⟩ : ∃ r, r = w.heap.size := ⟨_, rfl⟩
  rw [← hr]
  generalize hw1 : w.alloc (Obj.cells #[.int .i64 xn, .int .i64 xs, .int .i64 xv0, .int .i64 xv1, .bool xg, .string xt, .int .i64 xd0, .int .i64 xd1] 27) = w1
  generalize hw2 : w1.alloc (Obj.cells #[.int .i64 yn, .int .i64 ys, .int .i64 yv0, .int .i64 yv1, .bool yg, .string yt, .int .i64 yd0, .int .i64 yd1] 27) = w2
  have s1 : w1.heap.size = r + 1 := by rw [← hw1, hr]; simp
  have k2 : Keep (fun _ => False) w1 w2 := by rw [← hw2]; exact Keep.alloc _ _ _
  have k1 : Keep (fun _ => False) w w1 := by rw [← hw1]; exact Keep.alloc _ _ _
  have H1 : Hid (IsC w2 r ⟨xn, xs, xv0, xv1, xg, xt, xd0, xd1⟩) := by have : IsC w1 r ⟨xn, xs, xv0, xv1, xg, xt, xd0, xd1⟩ := (by rw [← hw1, hr]; exact IsC.new w ⟨xn, xs, xv0, xv1, xg, xt, xd0, xd1⟩); exact this.keep0 k2
  have H2 : Hid (IsC w2 (r + 1) ⟨yn, ys, yv0, yv1, yg, yt, yd0, yd1⟩) := by rw [← hw2, ← s1]; exact IsC.new w1 ⟨yn, ys, yv0, yv1, yg, yt, yd0, yd1⟩
  have K0 : Hid (Keep (fun _ => False) w w2) := k1.trans k2
  clear hw1 hw2 s1 k1 k2 hr
  go_region_held3 (fun w' => w'.cell? ⟨r, 0, none⟩ = some (.int .i64 xn) ∧ w'.cell? ⟨r, 1, none⟩ = some (.int .i64 xs) ∧ w'.cell? ⟨r, 2, none⟩ = some (.int .i64 xv0) ∧ w'.cell? ⟨r, 3, none⟩ = some (.int .i64 xv1) ∧ w'.cell? ⟨r, 4, none⟩ = some (.bool xg) ∧ w'.cell? ⟨r, 5, none⟩ = some (.string xt) ∧ w'.cell? ⟨r, 6, none⟩ = some (.int .i64 xd0) ∧ w'.cell? ⟨r, 7, none⟩ = some (.int .i64 xd1) ∧ w'.cell? ⟨r + 1, 0, none⟩ = some (.int .i64 yn) ∧ w'.cell? ⟨r + 1, 1, none⟩ = some (.int .i64 ys) ∧ w'.cell? ⟨r + 1, 2, none⟩ = some (.int .i64 yv0) ∧ w'.cell? ⟨r + 1, 3, none⟩ = some (.int .i64 yv1) ∧ w'.cell? ⟨r + 1, 4, none⟩ = some (.bool yg) ∧ w'.cell? ⟨r + 1, 5, none⟩ = some (.string yt) ∧ w'.cell? ⟨r + 1, 6, none⟩ = some (.int .i64 yd0) ∧ w'.cell? ⟨r + 1, 7, none⟩ = some (.int .i64 yd1))
    (first
      | exact cells16 (H1.out.keep0 (Keep.drewN _ _ 1)) (H2.out.keep0 (Keep.drewN _ _ 1))
      | exact cells16 (H1.out.keep0 ((Keep.drewN _ _ 1).trans (Keep.alloc _ _ _))) (H2.out.keep0 ((Keep.drewN _ _ 1).trans (Keep.alloc _ _ _)))
      | exact cells16 A1.out A2.out
      | exact cells16 B1.out B2.out)
    (first
      | (go_at_call 12; refine (HT.out _ _ (heap_alloc_new (w2.drewN 1) _)).mono ?_; rintro e w3 ⟨rfl, hk⟩; have hk' := ((Keep.drewN _ w2 1).trans (Keep.alloc _ _ _)).trans hk; have A1 := Lib.hid (H1.out.keep0 hk'); have A2 := Lib.hid (H2.out.keep0 hk'); have KA := Lib.hid (K0.out.trans hk'); clear hk hk')
      | fail)
  go_wp2_with fail
  go_ret
  exact ⟨rfl, KA.out⟩
set_option maxHeartbeats 2000000 in
theorem rwithin_any (xn xs xv0 xv1 : Int) (xg : Bool) (xt : ByteArray) (xd0 xd1 : Int) (yn ys yv0 yv1 : Int) (yg : Bool) (yt : ByteArray) (yd0 yd1 : Int) (w : World) :
    Calls Try.prog 15 #[.agg #[.int .i64 xn, .int .i64 xs, .int .i64 xv0, .int .i64 xv1, .bool xg, .string xt, .int .i64 xd0, .int .i64 xd1], .agg #[.int .i64 yn, .int .i64 ys, .int .i64 yv0, .int .i64 yv1, .bool yg, .string yt, .int .i64 yd0, .int .i64 yd1]] w fun e w' => e = .returned (.bool (C.within ⟨xn, xs, xv0, xv1, xg, xt, xd0, xd1⟩ ⟨yn, ys, yv0, yv1, yg, yt, yd0, yd1⟩)) ∧ Keep (fun _ => False) w w' := by
  unfold C.within
  have HT : Hid (∀ b w, w.heap[b]? = some (.cells #[.int .i64 xn, .int .i64 xs, .int .i64 xv0, .int .i64 xv1, .bool xg, .string xt, .int .i64 xd0, .int .i64 xd1, .int .i64 yn, .int .i64 ys, .int .i64 yv0, .int .i64 yv1, .bool yg, .string yt, .int .i64 yd0, .int .i64 yd1] 27 (0, 0)) → Calls Try.prog 13 #[.slice (some ⟨b, 0, none⟩) 2 2] w fun e w' => e = .returned (C.join [⟨xn, xs, xv0, xv1, xg, xt, xd0, xd1⟩, ⟨yn, ys, yv0, yv1, yg, yt, yd0, yd1⟩]).v ∧ Keep (fun _ => False) w w') := fun b w h => rjoin_two _ _ _ _ _ _ _ _ _ _ _ _ _ _ _ _ b w h
  generalize C.join [⟨xn, xs, xv0, xv1, xg, xt, xd0, xd1⟩, ⟨yn, ys, yv0, yv1, yg, yt, yd0, yd1⟩] = z at *
  obtain ⟨zn, zs, zv0, zv1, zg, zt, zd0, zd1⟩ := z
  dsimp only [C.v] at HT
  have H27 := fun w => equalIn27 9997 ⟨zn, zs, zv0, zv1, zg, zt, zd0, zd1⟩ ⟨yn, ys, yv0, yv1, yg, yt, yd0, yd1⟩ w
  dsimp only at H27
  have HSm : Hid (∀ w, Calls Try.prog 27 #[.agg #[.int .i64 zn, .int .i64 zs, .int .i64 zv0, .int .i64 zv1, .bool zg, .string zt, .int .i64 zd0, .int .i64 zd1], .agg #[.int .i64 yn, .int .i64 ys, .int .i64 yv0, .int .i64 yv1, .bool yg, .string yt, .int .i64 yd0, .int .i64 yd1]] w fun e w' => e = .returned (.bool (decide ((⟨zn, zs, zv0, zv1, zg, zt, zd0, zd1⟩ : C) = ⟨yn, ys, yv0, yv1, yg, yt, yd0, yd1⟩))) ∧ Keep (fun _ => False) w w') := fun w => same_any _ _ _ _ _ _ _ _ _ _ _ _ _ _ _ _ w
  generalize decide ((⟨zn, zs, zv0, zv1, zg, zt, zd0, zd1⟩ : C) = ⟨yn, ys, yv0, yv1, yg, yt, yd0, yd1⟩) = q at *
  go_enter Try.func15, Try.ntmps15
  go_upto_region 1 with fail
  obtain ⟨r, hr⟩ : ∃ r, r = w.heap.size := ⟨_, rfl⟩
  rw [← hr]
  generalize hw1 : w.alloc (Obj.cells #[.int .i64 xn, .int .i64 xs, .int .i64 xv0, .int .i64 xv1, .bool xg, .string xt, .int .i64 xd0, .int .i64 xd1] 27) = w1
  generalize hw2 : w1.alloc (Obj.cells #[.int .i64 yn, .int .i64 ys, .int .i64 yv0, .int .i64 yv1, .bool yg, .string yt, .int .i64 yd0, .int .i64 yd1] 27) = w2
  have s1 : w1.heap.size = r + 1 := by rw [← hw1, hr]; simp
  have k2 : Keep (fun _ => False) w1 w2 := by rw [← hw2]; exact Keep.alloc _ _ _
  have k1 : Keep (fun _ => False) w w1 := by rw [← hw1]; exact Keep.alloc _ _ _
  have H1 : Hid (IsC w2 r ⟨xn, xs, xv0, xv1, xg, xt, xd0, xd1⟩) := by have : IsC w1 r ⟨xn, xs, xv0, xv1, xg, xt, xd0, xd1⟩ := (by rw [← hw1, hr]; exact IsC.new w ⟨xn, xs, xv0, xv1, xg, xt, xd0, xd1⟩); exact this.keep0 k2
  have H2 : Hid (IsC w2 (r + 1) ⟨yn, ys, yv0, yv1, yg, yt, yd0, yd1⟩) := by rw [← hw2, ← s1]; exact IsC.new w1 ⟨yn, ys, yv0, yv1, yg, yt, yd0, yd1⟩
  have K0 : Hid (Keep (fun _ => False) w w2) := k1.trans k2
  clear hw1 hw2 s1 k1 k2 hr
  go_region_held3 (fun w' => w'.cell? ⟨r, 0, none⟩ = some (.int .i64 xn) ∧ w'.cell? ⟨r, 1, none⟩ = some (.int .i64 xs) ∧ w'.cell? ⟨r, 2, none⟩ = some (.int .i64 xv0) ∧ w'.cell? ⟨r, 3, none⟩ = some (.int .i64 xv1) ∧ w'.cell? ⟨r, 4, none⟩ = some (.bool xg) ∧ w'.cell? ⟨r, 5, none⟩ = some (.string xt) ∧ w'.cell? ⟨r, 6, none⟩ = some (.int .i64 xd0) ∧ w'.cell? ⟨r, 7, none⟩ = some (.int .i64 xd1) ∧ w'.cell? ⟨r + 1, 0, none⟩ = some (.int .i64 yn) ∧ w'.cell? ⟨r + 1, 1, none⟩ = some (.int .i64 ys) ∧ w'.cell? ⟨r + 1, 2, none⟩ = some (.int .i64 yv0) ∧ w'.cell? ⟨r + 1, 3, none⟩ = some (.int .i64 yv1) ∧ w'.cell? ⟨r + 1, 4, none⟩ = some (.bool yg) ∧ w'.cell? ⟨r + 1, 5, none⟩ = some (.string yt) ∧ w'.cell? ⟨r + 1, 6, none⟩ = some (.int .i64 yd0) ∧ w'.cell? ⟨r + 1, 7, none⟩ = some (.int .i64 yd1))
    (first
      | exact cells16 (H1.out.keep0 (Keep.drewN _ _ 1)) (H2.out.keep0 (Keep.drewN _ _ 1))
      | exact cells16 (H1.out.keep0 ((Keep.drewN _ _ 1).trans (Keep.alloc _ _ _))) (H2.out.keep0 ((Keep.drewN _ _ 1).trans (Keep.alloc _ _ _)))
      | exact cells16 A1.out A2.out
      | exact cells16 B1.out B2.out)
    (first
      | (go_at_call 13; refine (HT.out _ _ (heap_alloc_new (w2.drewN 1) _)).mono ?_; rintro e w3 ⟨rfl, hk⟩; have hk' := ((Keep.drewN _ w2 1).trans (Keep.alloc _ _ _)).trans hk; have A1 := Lib.hid (H1.out.keep0 hk'); have A2 := Lib.hid (H2.out.keep0 hk'); have KA := Lib.hid (K0.out.trans hk'); clear hk hk')
      | (go_at_call 27; refine (HSm.out _).mono ?_; rintro e w4 ⟨rfl, hk⟩; have B1 := Lib.hid (A1.out.keep0 hk); have B2 := Lib.hid (A2.out.keep0 hk); have KB := Lib.hid (KA.out.trans hk); clear hk))
  go_wp2_with fail
  go_ret
  exact ⟨rfl, KB.out⟩
end Go.Proofs.Ytfoklfifgmacfaa
