/- Whether counts cover counts; what is seen of a cell. Walked. -/
import Derived.Test.YtfoklfifgmacfaaK6
namespace Go.Proofs.Ytfoklfifgmacfaa
open Go.RowKit
def vcov (p q x y : Int) : Bool := decide (x ≤ p ∧ y ≤ q)
def C.shows (p : Int) (x : C) : Bool := x.good p && x.written && !x.gone && vcov x.v0 x.v1 x.d0 x.d1
def C.sight (p : Int) (x : C) : ByteArray := if x.shows p = true then x.value else ⟨#[]⟩
set_option maxHeartbeats 1000000 in
theorem meet_any (p q x y : Int) (w : World) :
    Calls Try.prog 38 #[.agg #[.int .i64 p, .int .i64 q], .agg #[.int .i64 x, .int .i64 y]] w fun e w' => e = .returned (.agg #[.int .i64 (min p x), .int .i64 (min q y)]) ∧ Keep (fun _ => False) w w' := by
  have HT : Hid (∀ w, Calls Try.prog 33 #[.agg #[.int .i64 p, .int .i64 q], .agg #[.int .i64 x, .int .i64 y], .func (.func 41) #[] #[]] w fun e w' => e = .returned (.agg #[.int .i64 (min p x), .int .i64 (min q y)]) ∧ Keep (fun _ => False) w w') := fun w => each41_any p q x y w
  generalize min p x = z0 at *
  generalize min q y = z1 at *
  go_enter Try.func38, Try.ntmps38
  go_upto_region 1 with fail
  obtain ⟨b, hb⟩ : ∃ b, b = w.heap.size := ⟨_, rfl⟩
  rw [← hb]
  generalize hw1 : w.alloc (Obj.cells #[Value.int IntKind.i64 p, Value.int IntKind.i64 q] 25) = w1
  generalize hw2 : w1.alloc (Obj.cells #[Value.int IntKind.i64 x, Value.int IntKind.i64 y] 25) = w2
  generalize hw3 : w2.alloc (Obj.cells #[Value.int IntKind.i64 0, Value.int IntKind.i64 0] 25) = w3
  have s1 : w1.heap.size = b + 1 := by rw [← hw1, hb]; simp
  have s2 : w2.heap.size = b + 1 + 1 := by rw [← hw2, ← s1]; simp
  have k3 : Keep (fun _ => False) w2 w3 := by rw [← hw3]; exact Keep.alloc _ _ _
  have k2 : Keep (fun _ => False) w1 w2 := by rw [← hw2]; exact Keep.alloc _ _ _
  have k1 : Keep (fun _ => False) w w1 := by rw [← hw1]; exact Keep.alloc _ _ _
  have H1 : Hid (IsV w3 b p q) := by have : IsV w1 b p q := (by rw [← hw1, hb]; exact IsV.new w p q); exact (this.keep0 k2).keep0 k3
  have H2 : Hid (IsV w3 (b + 1) x y) := by have : IsV w2 (b + 1) x y := (by rw [← hw2, ← s1]; exact IsV.new w1 x y); exact this.keep0 k3
  have H3 : Hid (IsV w3 (b + 1 + 1) 0 0) := by rw [← hw3, ← s2]; exact IsV.new w2 0 0
  have K0 : Hid (Keep (fun _ => False) w w3) := (k1.trans k2).trans k3
  have HR := Lib.hid hb
  clear hw1 hw2 hw3 s1 s2 k1 k2 k3 hb
  obtain ⟨c0, c1, _, _⟩ := H1.out.cells
  obtain ⟨e0, e1, _, _⟩ := H2.out.cells
  go_wp2_with (go_at_call 33; refine (HT.out _).mono ?_; rintro e w4 ⟨rfl, hk⟩; have HK := Lib.hid (K0.out.trans hk); have J3 := Lib.hid (H3.out.keep0 hk); clear hk c0 c1 e0 e1; obtain ⟨f0, f1, f2, f3⟩ := J3.out.cells)
  exact bodyPost_ret (v := .agg #[.int .i64 z0, .int .i64 z1]) (by simp [results, Try.results38, go_sem, *]) rfl ⟨rfl, (HK.out.setNew (by have := HR.out; show _ ≤ b + 1 + 1; omega) _).setNew (by have := HR.out; show _ ≤ b + 1 + 1; omega) _⟩
set_option maxHeartbeats 1000000 in
theorem covers_any (p q x y : Int) (w : World) :
    Calls Try.prog 31 #[.agg #[.int .i64 p, .int .i64 q], .agg #[.int .i64 x, .int .i64 y]] w fun e w' => e = .returned (.bool (vcov p q x y)) ∧ Keep (fun _ => False) w w' := by
  have HT : Hid (∀ w, Calls Try.prog 38 #[.agg #[.int .i64 p, .int .i64 q], .agg #[.int .i64 x, .int .i64 y]] w fun e w' => e = .returned (.agg #[.int .i64 (min p x), .int .i64 (min q y)]) ∧ Keep (fun _ => False) w w') := fun w => meet_any p q x y w
  have hv : vcov p q x y = decide (min p x = x ∧ min q y = y) := by
    unfold vcov
    refine Bool.eq_iff_iff.2 ?_
    simp only [decide_eq_true_eq]
    omega
  rw [hv]
  clear hv
  generalize min p x = z0 at *
  generalize min q y = z1 at *
  have H25 := fun w => equalIn25 9998 z0 z1 x y w
  generalize decide (z0 = x ∧ z1 = y) = r at *
  go_enter Try.func31, Try.ntmps31
  go_upto_region 1 with fail
  obtain ⟨b, hb⟩ : ∃ b, b = w.heap.size := ⟨_, rfl⟩
  rw [← hb]
  generalize hwb : w.alloc (Obj.cells #[Value.int IntKind.i64 p, Value.int IntKind.i64 q] 25) = wb
  obtain ⟨b2, hb2⟩ : ∃ b2, b2 = b + 1 := ⟨_, rfl⟩
  rw [← hb2]
  generalize hwa : wb.alloc (Obj.cells #[Value.int IntKind.i64 x, Value.int IntKind.i64 y] 25) = wa
  have hbb : b2 = wb.heap.size := by rw [hb2, hb, ← hwb]; simp
  have G0 : Hid (IsV wb b p q) := by rw [← hwb, hb]; exact IsV.new w p q
  have H0 : Hid (IsV wa b p q) := by rw [← hwa]; exact G0.out.keep0 (Keep.alloc _ _ _)
  have H1 : Hid (IsV wa b2 x y) := by rw [← hwa, hbb]; exact IsV.new wb x y
  have K0 : Hid (Keep (fun _ => False) w wa) := by rw [← hwa, ← hwb]; exact (Keep.alloc _ _ _).allocR _
  obtain ⟨c0, c1, _, _⟩ := H0.out.cells
  obtain ⟨e0, e1, _, _⟩ := H1.out.cells
  have hl := H0.out.lt
  have hl2 := H1.out.lt
  clear hb hb2 hbb hwa hwb
  have hRl := (Later.rules wa).1
  refine wp_region_later (by kernel_rfl) (by kernel_rfl) ?_
  repeat (refine wpQuiet_step (fun K hK => ?_); go_simp; first | (refine hK _ ?_; clear hK K) | (apply Exists.intro; refine ⟨fun g => ?_, hK _ ?_⟩; (go_at_call 38; exact Later.call (HT.out _)); clear hK K))
  refine wpQuiet_nil ?_
  intro _ hw'
  obtain ⟨g, hw''⟩ := hw'
  subst hw''
  have HK := Lib.hid (K0.out.trans g.keep)
  go_wp2_with fail
  go_ret
  exact ⟨rfl, HK.out⟩
set_option maxHeartbeats 4000000 in
theorem seen_any (p n s v0 v1 : Int) (g : Bool) (t : ByteArray) (d0 d1 : Int) (w : World) :
    Calls Try.prog 17 #[.int .i64 p, .agg #[.int .i64 n, .int .i64 s, .int .i64 v0, .int .i64 v1, .bool g, .string t, .int .i64 d0, .int .i64 d1]] w fun e w' => e = .returned (.tuple #[.string (C.sight p ⟨n, s, v0, v1, g, t, d0, d1⟩), .bool (C.shows p ⟨n, s, v0, v1, g, t, d0, d1⟩)]) ∧ Keep (fun _ => False) w w' := by
  have HG : Hid (∀ w, Calls Try.prog 16 #[.int .i64 p, .agg #[.int .i64 n, .int .i64 s, .int .i64 v0, .int .i64 v1, .bool g, .string t, .int .i64 d0, .int .i64 d1]] w fun e w' => e = .returned (.bool (C.good p ⟨n, s, v0, v1, g, t, d0, d1⟩)) ∧ Keep (fun _ => False) w w') := fun w => good_any p n s v0 v1 g t d0 d1 w
  have HW : Hid (∀ w, Calls Try.prog 29 #[.agg #[.int .i64 n, .int .i64 s, .int .i64 v0, .int .i64 v1, .bool g, .string t, .int .i64 d0, .int .i64 d1]] w fun e w' => e = .returned (.bool (C.written ⟨n, s, v0, v1, g, t, d0, d1⟩)) ∧ Keep (fun _ => False) w w') := fun w => written_any n s v0 v1 g t d0 d1 w
  have HC : Hid (∀ w, Calls Try.prog 31 #[.agg #[.int .i64 v0, .int .i64 v1], .agg #[.int .i64 d0, .int .i64 d1]] w fun e w' => e = .returned (.bool (vcov v0 v1 d0 d1)) ∧ Keep (fun _ => False) w w') := fun w => covers_any v0 v1 d0 d1 w
  unfold C.sight C.shows
  dsimp only
  generalize C.good p ⟨n, s, v0, v1, g, t, d0, d1⟩ = bg at *
  generalize C.written ⟨n, s, v0, v1, g, t, d0, d1⟩ = bw at *
  generalize vcov v0 v1 d0 d1 = bc at *
  go_enter Try.func17, Try.ntmps17
  go_upto_region 1 with fail
  obtain ⟨b, hb⟩ : ∃ b, b = w.heap.size := ⟨_, rfl⟩
  rw [← hb]
  generalize hwa : w.alloc (Obj.cells #[.int .i64 n, .int .i64 s, .int .i64 v0, .int .i64 v1, .bool g, .string t, .int .i64 d0, .int .i64 d1] 27) = wa
  have H0 : Hid (IsC wa b ⟨n, s, v0, v1, g, t, d0, d1⟩) := by rw [← hwa, hb]; exact IsC.new w ⟨n, s, v0, v1, g, t, d0, d1⟩
  have K0 : Hid (Keep (fun _ => False) w wa) := by rw [← hwa]; exact Keep.alloc _ _ _
  clear hb hwa
  obtain ⟨c0, c1, c2, c3, c4, c5, c6, c7⟩ := H0.out.cells
  dsimp only at c0 c1 c2 c3 c4 c5 c6 c7
  cases bg <;> cases bw <;> cases g <;> cases bc
  all_goals
    go_wp2_with (first
      | (go_at_call 16; refine (HG.out _).mono ?_; rintro e w2 ⟨rfl, hk⟩; have J2 := Lib.hid (H0.out.keep0 hk); have KK2 := Lib.hid (K0.out.trans hk); clear hk c0 c1 c2 c3 c4 c5 c6 c7; obtain ⟨c0, c1, c2, c3, c4, c5, c6, c7⟩ := J2.out.cells; dsimp only at c0 c1 c2 c3 c4 c5 c6 c7)
      | (go_at_call 29; refine (HW.out _).mono ?_; rintro e w3 ⟨rfl, hk⟩; have J3 := Lib.hid (J2.out.keep0 hk); have KK3 := Lib.hid (KK2.out.trans hk); clear hk c0 c1 c2 c3 c4 c5 c6 c7; obtain ⟨c0, c1, c2, c3, c4, c5, c6, c7⟩ := J3.out.cells; dsimp only at c0 c1 c2 c3 c4 c5 c6 c7)
      | (go_at_call 31; refine (HC.out _).mono ?_; rintro e w4 ⟨rfl, hk⟩; have J4 := Lib.hid (J3.out.keep0 hk); have KK4 := Lib.hid (KK3.out.trans hk); clear hk c0 c1 c2 c3 c4 c5 c6 c7; obtain ⟨c0, c1, c2, c3, c4, c5, c6, c7⟩ := J4.out.cells; dsimp only at c0 c1 c2 c3 c4 c5 c6 c7))
    exact bodyPost_ret (by simp [results, Try.results17, go_sem]) rfl ⟨rfl, by first | exact KK4.out | exact KK3.out | exact KK2.out⟩
theorem seen_c (p : Int) (x : C) (w : World) : Calls Try.prog 17 #[.int .i64 p, .agg #[.int .i64 x.n, .int .i64 x.s, .int .i64 x.v0, .int .i64 x.v1, .bool x.gone, .string x.value, .int .i64 x.d0, .int .i64 x.d1]] w fun e w' => e = .returned (.tuple #[.string (x.sight p), .bool (x.shows p)]) ∧ Keep (fun _ => False) w w' := seen_any p _ _ _ _ _ _ _ _ w
end Go.Proofs.Ytfoklfifgmacfaa
