/- Two vectors, place by place, walked. -/
import Derived.Test.YtfoklfifgmacfaaS4
namespace Go.Proofs.Ytfoklfifgmacfaa
open Go.RowKit
def IsV (w : World) (b : Nat) (p q : Int) : Prop := w.heap[b]? = some (.cells #[.int .i64 p, .int .i64 q] 25 (0, 0))
theorem IsV.lt {w : World} {b : Nat} {p q : Int} (h : IsV w b p q) : b < w.heap.size := lt_of_block h
theorem IsV.cells {w : World} {b : Nat} {p q : Int} (h : IsV w b p q) : w.cell? ⟨b, 0, none⟩ = some (.int .i64 p) ∧ w.cell? ⟨b, 1, none⟩ = some (.int .i64 q) ∧ w.frozen? ⟨b, 0, none⟩ = false ∧ w.frozen? ⟨b, 1, none⟩ = false :=
  ⟨cell_of h 0, cell_of h 1, free_of h 0, free_of h 1⟩
theorem IsV.keep {S : Nat → Prop} {w w' : World} {b : Nat} {p q : Int} (h : IsV w b p q) (k : Keep S w w') (hs : ¬ S b) : IsV w' b p q := k.heap h hs
theorem IsV.keep0 {w w' : World} {b : Nat} {p q : Int} (h : IsV w b p q) (k : Keep (fun _ => False) w w') : IsV w' b p q := k.heap h (fun h => h)
theorem IsV.new (w : World) (p q : Int) : IsV (w.alloc (.cells #[.int .i64 p, .int .i64 q] 25)) w.heap.size p q := heap_alloc_new w _
theorem IsV.set0 {w : World} {b : Nat} {p q : Int} (h : IsV w b p q) (z : Int) : IsV (w.setCell ⟨b, 0, none⟩ (.int .i64 z)) b z q := heap_setCell_at h
theorem IsV.set1 {w : World} {b : Nat} {p q : Int} (h : IsV w b p q) (z : Int) : IsV (w.setCell ⟨b, 1, none⟩ (.int .i64 z)) b p z := heap_setCell_at h
theorem IsV.set {w : World} {b : Nat} {p q : Int} (h : IsV w b p q) (y z : Int) : IsV ((w.setCell ⟨b, 0, none⟩ (.int .i64 y)).setCell ⟨b, 1, none⟩ (.int .i64 z)) b y z := (h.set0 y).set1 z
set_option maxHeartbeats 400000 in
theorem max_any (x y : Int) (w : World) : Calls Try.prog 34 #[.int .i64 x, .int .i64 y] w fun e w' => e = .returned (.int .i64 (max x y)) ∧ w = w' := by
  go_enter Try.func34, Try.ntmps34
  go_wp2
  all_goals
    go_ret
    exact ⟨ret_int (by first | omega | (simp at * <;> omega)), rfl⟩
set_option maxHeartbeats 1000000 in
theorem each34_any (a0 a1 b0 b1 : Int) (w : World) :
    Calls Try.prog 33 #[.agg #[.int .i64 a0, .int .i64 a1], .agg #[.int .i64 b0, .int .i64 b1], .func (.func 34) #[] #[]] w
      fun e w' => e = .returned (.agg #[.int .i64 (max a0 b0), .int .i64 (max a1 b1)]) ∧ Keep (fun _ => False) w w' := by
  obtain ⟨z0, hz0⟩ : ∃ z, z = max a0 b0 := ⟨_, rfl⟩
  obtain ⟨z1, hz1⟩ : ∃ z, z = max a1 b1 := ⟨_, rfl⟩
  rw [← hz0, ← hz1]
  have M0 := fun w => (hz0 ▸ max_any a0 b0 w : Calls Try.prog 34 #[.int .i64 a0, .int .i64 b0] w fun e w' => e = .returned (.int .i64 z0) ∧ w = w')
  have M1 := fun w => (hz1 ▸ max_any a1 b1 w : Calls Try.prog 34 #[.int .i64 a1, .int .i64 b1] w fun e w' => e = .returned (.int .i64 z1) ∧ w = w')
  clear hz0 hz1
  go_enter Try.func33, Try.ntmps33
  go_upto_region 2 with fail
  obtain ⟨b, hb⟩ : ∃ b, b = w.heap.size := ⟨_, rfl⟩
  rw [← hb]
  generalize hw1 : w.alloc (Obj.cells #[Value.int IntKind.i64 a0, Value.int IntKind.i64 a1] 25) = w1
  generalize hw2 : w1.alloc (Obj.cells #[Value.int IntKind.i64 b0, Value.int IntKind.i64 b1] 25) = w2
  generalize hw3 : w2.alloc (Obj.cells #[Value.int IntKind.i64 0, Value.int IntKind.i64 0] 25) = w3
  have s1 : w1.heap.size = b + 1 := by rw [← hw1, hb]; simp
  have s2 : w2.heap.size = b + 1 + 1 := by rw [← hw2, ← s1]; simp
  have k3 : Keep (fun _ => False) w2 w3 := by rw [← hw3]; exact Keep.alloc _ _ _
  have k2 : Keep (fun _ => False) w1 w2 := by rw [← hw2]; exact Keep.alloc _ _ _
  have k1 : Keep (fun _ => False) w w1 := by rw [← hw1]; exact Keep.alloc _ _ _
  have H1 : Hid (IsV w3 b a0 a1) := by have : IsV w1 b a0 a1 := (by rw [← hw1, hb]; exact IsV.new w a0 a1); exact (this.keep0 k2).keep0 k3
  have H2 : Hid (IsV w3 (b + 1) b0 b1) := by have : IsV w2 (b + 1) b0 b1 := (by rw [← hw2, ← s1]; exact IsV.new w1 b0 b1); exact this.keep0 k3
  have H3 : Hid (IsV w3 (b + 1 + 1) 0 0) := by rw [← hw3, ← s2]; exact IsV.new w2 0 0
  have K0 : Hid (Keep (fun _ => False) w w3) := (k1.trans k2).trans k3
  have HB := Lib.hid hb
  clear hw1 hw2 hw3 s1 s2 k1 k2 k3 hb
  go_loopw [8] (fun i wr => ∃ (k p q : Int), (k = 0 ∨ k = 1 ∨ k = 2) ∧ i = .int .i64 k ∧ IsV wr b a0 a1 ∧ IsV wr (b + 1) b0 b1 ∧ IsV wr (b + 1 + 1) p q ∧ (1 ≤ k → p = z0) ∧ (2 ≤ k → q = z1) ∧ Keep (fun _ => False) w wr) (fun i _ => 2 - (intOf i).toNat)
  case atStart => exact ⟨0, 0, 0, .inl rfl, rfl, H1.out, H2.out, H3.out, by omega, by omega, K0.out⟩
  case round =>
    obtain ⟨k, p, q, hk, rfl, h1, h2, h3, hp, hq, hkp⟩ := hrel
    clear H1 H2 H3 K0
    have HK := Lib.hid hkp
    have H1 := Lib.hid h1
    have H2 := Lib.hid h2
    have H3 := Lib.hid h3
    obtain ⟨c0, c1, _, _⟩ := h1.cells
    obtain ⟨e0, e1, _, _⟩ := h2.cells
    obtain ⟨f0, f1, _, _⟩ := h3.cells
    have l1 := h1.lt
    have l2 := h2.lt
    have l3 := h3.lt
    have HP := Lib.hid hp
    have HQ := Lib.hid hq
    clear hkp h1 h2 h3 hp hq
    have hRl := (Later.rules wr).1
    rcases hk with rfl | rfl | rfl
    · go_upto_region 4 with fail
      refine wp_region_later_tail 10 (by kernel_rfl) (by kernel_rfl) ?_
      simp only [List.take_succ_cons, List.take_zero, List.drop_succ_cons, List.drop_zero]
      repeat (refine wpQuiet_step (fun K hK => ?_); go_simp; first | (refine hK _ ?_; clear hK K) | (apply Exists.intro; refine ⟨fun _ => ?_, hK _ ?_⟩; ((go_at_call 34; exact Later.call ((M0 _).mono fun _ _ ⟨h1, h2⟩ => ⟨h1, h2 ▸ Keep.refl _ _⟩))); clear hK K))
      refine wpQuiet_nil ?_
      intro _ hw'
      obtain ⟨g, hw''⟩ := hw'
      subst hw''
      obtain ⟨wg, hwg⟩ : ∃ wg, wg = g.world := ⟨_, rfl⟩
      have hkg := g.keep
      rw [← hwg] at hkg ⊢
      have HKg := Lib.hid (HK.out.trans hkg)
      have h1 := (H1.out.keep0 hkg).keep (Keep.setCell (S := fun i => i = b + 1 + 1) wg (p := ⟨b + 1 + 1, 0, none⟩) (.int .i64 z0) rfl) (by omega)
      have h2 := (H2.out.keep0 hkg).keep (Keep.setCell (S := fun i => i = b + 1 + 1) wg (p := ⟨b + 1 + 1, 0, none⟩) (.int .i64 z0) rfl) (by omega)
      obtain ⟨y0, y1, y2, y3⟩ := (H3.out.keep0 hkg).cells
      have h3 := (H3.out.keep0 hkg).set0 z0
      clear hRl c0 c1 e0 e1 f0 f1 hkg hwg
      go_wp2_with fail
      go_roundw
      case rel => exact ⟨1, z0, q, .inr (.inl rfl), rfl, h1, h2, h3, fun _ => rfl, fun h => by omega, HKg.out.setNew (by have := HB.out; dsimp only; omega) _⟩
      case measure => simp [intOf]
    · go_upto_region 4 with fail
      refine wp_region_later_tail 10 (by kernel_rfl) (by kernel_rfl) ?_
      simp only [List.take_succ_cons, List.take_zero, List.drop_succ_cons, List.drop_zero]
      repeat (refine wpQuiet_step (fun K hK => ?_); go_simp; first | (refine hK _ ?_; clear hK K) | (apply Exists.intro; refine ⟨fun _ => ?_, hK _ ?_⟩; ((go_at_call 34; exact Later.call ((M1 _).mono fun _ _ ⟨h1, h2⟩ => ⟨h1, h2 ▸ Keep.refl _ _⟩))); clear hK K))
      refine wpQuiet_nil ?_
      intro _ hw'
      obtain ⟨g, hw''⟩ := hw'
      subst hw''
      obtain ⟨wg, hwg⟩ : ∃ wg, wg = g.world := ⟨_, rfl⟩
      have hkg := g.keep
      rw [← hwg] at hkg ⊢
      have HKg := Lib.hid (HK.out.trans hkg)
      have h1 := (H1.out.keep0 hkg).keep (Keep.setCell (S := fun i => i = b + 1 + 1) wg (p := ⟨b + 1 + 1, 1, none⟩) (.int .i64 z1) rfl) (by omega)
      have h2 := (H2.out.keep0 hkg).keep (Keep.setCell (S := fun i => i = b + 1 + 1) wg (p := ⟨b + 1 + 1, 1, none⟩) (.int .i64 z1) rfl) (by omega)
      obtain ⟨y0, y1, y2, y3⟩ := (H3.out.keep0 hkg).cells
      have h3 := (H3.out.keep0 hkg).set1 z1
      clear hRl c0 c1 e0 e1 f0 f1 hkg hwg
      go_wp2_with fail
      go_roundw
      case rel => exact ⟨2, p, z1, .inr (.inr rfl), rfl, h1, h2, h3, fun _ => HP.out (by omega), fun _ => rfl, HKg.out.setNew (by have := HB.out; dsimp only; omega) _⟩
      case measure => simp [intOf]
    · obtain rfl : p = z0 := HP.out (by omega)
      obtain rfl : q = z1 := HQ.out (by omega)
      clear hRl
      go_wp2_with fail
      exact bodyPost_ret (v := .agg #[.int .i64 p, .int .i64 q]) (by simp [results, Try.results33, go_sem, *]) rfl
        ⟨rfl, (HK.out.setNew (by have := HB.out; dsimp only; omega) _).setNew (by have := HB.out; dsimp only; omega) _⟩
set_option maxHeartbeats 400000 in
theorem clip_any (x y : Int) (w : World) : Calls Try.prog 36 #[.int .i64 x, .int .i64 y] w fun e w' => e = .returned (.int .i64 (min (max x 0) 1099511627776)) ∧ w = w' := by
  go_enter Try.func36, Try.ntmps36
  go_wp2
  all_goals
    go_ret
    exact ⟨ret_int (by first | omega | (simp at * <;> omega)), rfl⟩
set_option maxHeartbeats 1000000 in
theorem each36_any (a0 a1 b0 b1 : Int) (w : World) :
    Calls Try.prog 33 #[.agg #[.int .i64 a0, .int .i64 a1], .agg #[.int .i64 b0, .int .i64 b1], .func (.func 36) #[] #[]] w
      fun e w' => e = .returned (.agg #[.int .i64 (min (max a0 0) 1099511627776), .int .i64 (min (max a1 0) 1099511627776)]) ∧ Keep (fun _ => False) w w' := by
  obtain ⟨z0, hz0⟩ : ∃ z, z = min (max a0 0) 1099511627776 := ⟨_, rfl⟩
  obtain ⟨z1, hz1⟩ : ∃ z, z = min (max a1 0) 1099511627776 := ⟨_, rfl⟩
  rw [← hz0, ← hz1]
  have M0 := fun w => (hz0 ▸ clip_any a0 b0 w : Calls Try.prog 36 #[.int .i64 a0, .int .i64 b0] w fun e w' => e = .returned (.int .i64 z0) ∧ w = w')
  have M1 := fun w => (hz1 ▸ clip_any a1 b1 w : Calls Try.prog 36 #[.int .i64 a1, .int .i64 b1] w fun e w' => e = .returned (.int .i64 z1) ∧ w = w')
  clear hz0 hz1
  go_enter Try.func33, Try.ntmps33
  go_upto_region 2 with fail
  obtain ⟨b, hb⟩ : ∃ b, b = w.heap.size := ⟨_, rfl⟩
  rw [← hb]
  generalize hw1 : w.alloc (Obj.cells #[Value.int IntKind.i64 a0, Value.int IntKind.i64 a1] 25) = w1
  generalize hw2 : w1.alloc (Obj.cells #[Value.int IntKind.i64 b0, Value.int IntKind.i64 b1] 25) = w2
  generalize hw3 : w2.alloc (Obj.cells #[Value.int IntKind.i64 0, Value.int IntKind.i64 0] 25) = w3
  have s1 : w1.heap.size = b + 1 := by rw [← hw1, hb]; simp
  have s2 : w2.heap.size = b + 1 + 1 := by rw [← hw2, ← s1]; simp
  have k3 : Keep (fun _ => False) w2 w3 := by rw [← hw3]; exact Keep.alloc _ _ _
  have k2 : Keep (fun _ => False) w1 w2 := by rw [← hw2]; exact Keep.alloc _ _ _
  have k1 : Keep (fun _ => False) w w1 := by rw [← hw1]; exact Keep.alloc _ _ _
  have H1 : Hid (IsV w3 b a0 a1) := by have : IsV w1 b a0 a1 := (by rw [← hw1, hb]; exact IsV.new w a0 a1); exact (this.keep0 k2).keep0 k3
  have H2 : Hid (IsV w3 (b + 1) b0 b1) := by have : IsV w2 (b + 1) b0 b1 := (by rw [← hw2, ← s1]; exact IsV.new w1 b0 b1); exact this.keep0 k3
  have H3 : Hid (IsV w3 (b + 1 + 1) 0 0) := by rw [← hw3, ← s2]; exact IsV.new w2 0 0
  have K0 : Hid (Keep (fun _ => False) w w3) := (k1.trans k2).trans k3
  have HB := Lib.hid hb
  clear hw1 hw2 hw3 s1 s2 k1 k2 k3 hb
  go_loopw [8] (fun i wr => ∃ (k p q : Int), (k = 0 ∨ k = 1 ∨ k = 2) ∧ i = .int .i64 k ∧ IsV wr b a0 a1 ∧ IsV wr (b + 1) b0 b1 ∧ IsV wr (b + 1 + 1) p q ∧ (1 ≤ k → p = z0) ∧ (2 ≤ k → q = z1) ∧ Keep (fun _ => False) w wr) (fun i _ => 2 - (intOf i).toNat)
  case atStart => exact ⟨0, 0, 0, .inl rfl, rfl, H1.out, H2.out, H3.out, by omega, by omega, K0.out⟩
  case round =>
    obtain ⟨k, p, q, hk, rfl, h1, h2, h3, hp, hq, hkp⟩ := hrel
    clear H1 H2 H3 K0
    have HK := Lib.hid hkp
    have H1 := Lib.hid h1
    have H2 := Lib.hid h2
    have H3 := Lib.hid h3
    obtain ⟨c0, c1, _, _⟩ := h1.cells
    obtain ⟨e0, e1, _, _⟩ := h2.cells
    obtain ⟨f0, f1, _, _⟩ := h3.cells
    have l1 := h1.lt
    have l2 := h2.lt
    have l3 := h3.lt
    have HP := Lib.hid hp
    have HQ := Lib.hid hq
    clear hkp h1 h2 h3 hp hq
    have hRl := (Later.rules wr).1
    rcases hk with rfl | rfl | rfl
    · go_upto_region 4 with fail
      refine wp_region_later_tail 10 (by kernel_rfl) (by kernel_rfl) ?_
      simp only [List.take_succ_cons, List.take_zero, List.drop_succ_cons, List.drop_zero]
      repeat (refine wpQuiet_step (fun K hK => ?_); go_simp; first | (refine hK _ ?_; clear hK K) | (apply Exists.intro; refine ⟨fun _ => ?_, hK _ ?_⟩; ((go_at_call 36; exact Later.call ((M0 _).mono fun _ _ ⟨h1, h2⟩ => ⟨h1, h2 ▸ Keep.refl _ _⟩))); clear hK K))
      refine wpQuiet_nil ?_
      intro _ hw'
      obtain ⟨g, hw''⟩ := hw'
      subst hw''
      obtain ⟨wg, hwg⟩ : ∃ wg, wg = g.world := ⟨_, rfl⟩
      have hkg := g.keep
      rw [← hwg] at hkg ⊢
      have HKg := Lib.hid (HK.out.trans hkg)
      have h1 := (H1.out.keep0 hkg).keep (Keep.setCell (S := fun i => i = b + 1 + 1) wg (p := ⟨b + 1 + 1, 0, none⟩) (.int .i64 z0) rfl) (by omega)
      have h2 := (H2.out.keep0 hkg).keep (Keep.setCell (S := fun i => i = b + 1 + 1) wg (p := ⟨b + 1 + 1, 0, none⟩) (.int .i64 z0) rfl) (by omega)
      obtain ⟨y0, y1, y2, y3⟩ := (H3.out.keep0 hkg).cells
      have h3 := (H3.out.keep0 hkg).set0 z0
      clear hRl c0 c1 e0 e1 f0 f1 hkg hwg
      go_wp2_with fail
      go_roundw
      case rel => exact ⟨1, z0, q, .inr (.inl rfl), rfl, h1, h2, h3, fun _ => rfl, fun h => by omega, HKg.out.setNew (by have := HB.out; dsimp only; omega) _⟩
      case measure => simp [intOf]
    · go_upto_region 4 with fail
      refine wp_region_later_tail 10 (by kernel_rfl) (by kernel_rfl) ?_
      simp only [List.take_succ_cons, List.take_zero, List.drop_succ_cons, List.drop_zero]
      repeat (refine wpQuiet_step (fun K hK => ?_); go_simp; first | (refine hK _ ?_; clear hK K) | (apply Exists.intro; refine ⟨fun _ => ?_, hK _ ?_⟩; ((go_at_call 36; exact Later.call ((M1 _).mono fun _ _ ⟨h1, h2⟩ => ⟨h1, h2 ▸ Keep.refl _ _⟩))); clear hK K))
      refine wpQuiet_nil ?_
      intro _ hw'
      obtain ⟨g, hw''⟩ := hw'
      subst hw''
      obtain ⟨wg, hwg⟩ : ∃ wg, wg = g.world := ⟨_, rfl⟩
      have hkg := g.keep
      rw [← hwg] at hkg ⊢
      have HKg := Lib.hid (HK.out.trans hkg)
      have h1 := (H1.out.keep0 hkg).keep (Keep.setCell (S := fun i => i = b + 1 + 1) wg (p := ⟨b + 1 + 1, 1, none⟩) (.int .i64 z1) rfl) (by omega)
      have h2 := (H2.out.keep0 hkg).keep (Keep.setCell (S := fun i => i = b + 1 + 1) wg (p := ⟨b + 1 + 1, 1, none⟩) (.int .i64 z1) rfl) (by omega)
      obtain ⟨y0, y1, y2, y3⟩ := (H3.out.keep0 hkg).cells
      have h3 := (H3.out.keep0 hkg).set1 z1
      clear hRl c0 c1 e0 e1 f0 f1 hkg hwg
      go_wp2_with fail
      go_roundw
      case rel => exact ⟨2, p, z1, .inr (.inr rfl), rfl, h1, h2, h3, fun _ => HP.out (by omega), fun _ => rfl, HKg.out.setNew (by have := HB.out; dsimp only; omega) _⟩
      case measure => simp [intOf]
    · obtain rfl : p = z0 := HP.out (by omega)
      obtain rfl : q = z1 := HQ.out (by omega)
      clear hRl
      go_wp2_with fail
      exact bodyPost_ret (v := .agg #[.int .i64 p, .int .i64 q]) (by simp [results, Try.results33, go_sem, *]) rfl
        ⟨rfl, (HK.out.setNew (by have := HB.out; dsimp only; omega) _).setNew (by have := HB.out; dsimp only; omega) _⟩
set_option maxHeartbeats 400000 in
theorem min_any (x y : Int) (w : World) : Calls Try.prog 41 #[.int .i64 x, .int .i64 y] w fun e w' => e = .returned (.int .i64 (min x y)) ∧ w = w' := by
  go_enter Try.func41, Try.ntmps41
  go_wp2
  all_goals
    go_ret
    exact ⟨ret_int (by first | omega | (simp at * <;> omega)), rfl⟩
set_option maxHeartbeats 1000000 in
theorem each41_any (a0 a1 b0 b1 : Int) (w : World) :
    Calls Try.prog 33 #[.agg #[.int .i64 a0, .int .i64 a1], .agg #[.int .i64 b0, .int .i64 b1], .func (.func 41) #[] #[]] w
      fun e w' => e = .returned (.agg #[.int .i64 (min a0 b0), .int .i64 (min a1 b1)]) ∧ Keep (fun _ => False) w w' := by
  obtain ⟨z0, hz0⟩ : ∃ z, z = min a0 b0 := ⟨_, rfl⟩
  obtain ⟨z1, hz1⟩ : ∃ z, z = min a1 b1 := ⟨_, rfl⟩
  rw [← hz0, ← hz1]
  have M0 := fun w => (hz0 ▸ min_any a0 b0 w : Calls Try.prog 41 #[.int .i64 a0, .int .i64 b0] w fun e w' => e = .returned (.int .i64 z0) ∧ w = w')
  have M1 := fun w => (hz1 ▸ min_any a1 b1 w : Calls Try.prog 41 #[.int .i64 a1, .int .i64 b1] w fun e w' => e = .returned (.int .i64 z1) ∧ w = w')
  clear hz0 hz1
  go_enter Try.func33, Try.ntmps33
  go_upto_region 2 with fail
  obtain ⟨b, hb⟩ : ∃ b, b = w.heap.size := ⟨_, rfl⟩
  rw [← hb]
  generalize hw1 : w.alloc (Obj.cells #[Value.int IntKind.i64 a0, Value.int IntKind.i64 a1] 25) = w1
  generalize hw2 : w1.alloc (Obj.cells #[Value.int IntKind.i64 b0, Value.int IntKind.i64 b1] 25) = w2
  generalize hw3 : w2.alloc (Obj.cells #[Value.int IntKind.i64 0, Value.int IntKind.i64 0] 25) = w3
  have s1 : w1.heap.size = b + 1 := by rw [← hw1, hb]; simp
  have s2 : w2.heap.size = b + 1 + 1 := by rw [← hw2, ← s1]; simp
  have k3 : Keep (fun _ => False) w2 w3 := by rw [← hw3]; exact Keep.alloc _ _ _
  have k2 : Keep (fun _ => False) w1 w2 := by rw [← hw2]; exact Keep.alloc _ _ _
  have k1 : Keep (fun _ => False) w w1 := by rw [← hw1]; exact Keep.alloc _ _ _
  have H1 : Hid (IsV w3 b a0 a1) := by have : IsV w1 b a0 a1 := (by rw [← hw1, hb]; exact IsV.new w a0 a1); exact (this.keep0 k2).keep0 k3
  have H2 : Hid (IsV w3 (b + 1) b0 b1) := by have : IsV w2 (b + 1) b0 b1 := (by rw [← hw2, ← s1]; exact IsV.new w1 b0 b1); exact this.keep0 k3
  have H3 : Hid (IsV w3 (b + 1 + 1) 0 0) := by rw [← hw3, ← s2]; exact IsV.new w2 0 0
  have K0 : Hid (Keep (fun _ => False) w w3) := (k1.trans k2).trans k3
  have HB := Lib.hid hb
  clear hw1 hw2 hw3 s1 s2 k1 k2 k3 hb
  go_loopw [8] (fun i wr => ∃ (k p q : Int), (k = 0 ∨ k = 1 ∨ k = 2) ∧ i = .int .i64 k ∧ IsV wr b a0 a1 ∧ IsV wr (b + 1) b0 b1 ∧ IsV wr (b + 1 + 1) p q ∧ (1 ≤ k → p = z0) ∧ (2 ≤ k → q = z1) ∧ Keep (fun _ => False) w wr) (fun i _ => 2 - (intOf i).toNat)
  case atStart => exact ⟨0, 0, 0, .inl rfl, rfl, H1.out, H2.out, H3.out, by omega, by omega, K0.out⟩
  case round =>
    obtain ⟨k, p, q, hk, rfl, h1, h2, h3, hp, hq, hkp⟩ := hrel
    clear H1 H2 H3 K0
    have HK := Lib.hid hkp
    have H1 := Lib.hid h1
    have H2 := Lib.hid h2
    have H3 := Lib.hid h3
    obtain ⟨c0, c1, _, _⟩ := h1.cells
    obtain ⟨e0, e1, _, _⟩ := h2.cells
    obtain ⟨f0, f1, _, _⟩ := h3.cells
    have l1 := h1.lt
    have l2 := h2.lt
    have l3 := h3.lt
    have HP := Lib.hid hp
    have HQ := Lib.hid hq
    clear hkp h1 h2 h3 hp hq
    have hRl := (Later.rules wr).1
    rcases hk with rfl | rfl | rfl
    · go_upto_region 4 with fail
      refine wp_region_later_tail 10 (by kernel_rfl) (by kernel_rfl) ?_
      simp only [List.take_succ_cons, List.take_zero, List.drop_succ_cons, List.drop_zero]
      repeat (refine wpQuiet_step (fun K hK => ?_); go_simp; first | (refine hK _ ?_; clear hK K) | (apply Exists.intro; refine ⟨fun _ => ?_, hK _ ?_⟩; ((go_at_call 41; exact Later.call ((M0 _).mono fun _ _ ⟨h1, h2⟩ => ⟨h1, h2 ▸ Keep.refl _ _⟩))); clear hK K))
      refine wpQuiet_nil ?_
      intro _ hw'
      obtain ⟨g, hw''⟩ := hw'
      subst hw''
      obtain ⟨wg, hwg⟩ : ∃ wg, wg = g.world := ⟨_, rfl⟩
      have hkg := g.keep
      rw [← hwg] at hkg ⊢
      have HKg := Lib.hid (HK.out.trans hkg)
      have h1 := (H1.out.keep0 hkg).keep (Keep.setCell (S := fun i => i = b + 1 + 1) wg (p := ⟨b + 1 + 1, 0, none⟩) (.int .i64 z0) rfl) (by omega)
      have h2 := (H2.out.keep0 hkg).keep (Keep.setCell (S := fun i => i = b + 1 + 1) wg (p := ⟨b + 1 + 1, 0, none⟩) (.int .i64 z0) rfl) (by omega)
      obtain ⟨y0, y1, y2, y3⟩ := (H3.out.keep0 hkg).cells
      have h3 := (H3.out.keep0 hkg).set0 z0
      clear hRl c0 c1 e0 e1 f0 f1 hkg hwg
      go_wp2_with fail
      go_roundw
      case rel => exact ⟨1, z0, q, .inr (.inl rfl), rfl, h1, h2, h3, fun _ => rfl, fun h => by omega, HKg.out.setNew (by have := HB.out; dsimp only; omega) _⟩
      case measure => simp [intOf]
    · go_upto_region 4 with fail
      refine wp_region_later_tail 10 (by kernel_rfl) (by kernel_rfl) ?_
      simp only [List.take_succ_cons, List.take_zero, List.drop_succ_cons, List.drop_zero]
      repeat (refine wpQuiet_step (fun K hK => ?_); go_simp; first | (refine hK _ ?_; clear hK K) | (apply Exists.intro; refine ⟨fun _ => ?_, hK _ ?_⟩; ((go_at_call 41; exact Later.call ((M1 _).mono fun _ _ ⟨h1, h2⟩ => ⟨h1, h2 ▸ Keep.refl _ _⟩))); clear hK K))
      refine wpQuiet_nil ?_
      intro _ hw'
      obtain ⟨g, hw''⟩ := hw'
      subst hw''
      obtain ⟨wg, hwg⟩ : ∃ wg, wg = g.world := ⟨_, rfl⟩
      have hkg := g.keep
      rw [← hwg] at hkg ⊢
      have HKg := Lib.hid (HK.out.trans hkg)
      have h1 := (H1.out.keep0 hkg).keep (Keep.setCell (S := fun i => i = b + 1 + 1) wg (p := ⟨b + 1 + 1, 1, none⟩) (.int .i64 z1) rfl) (by omega)
      have h2 := (H2.out.keep0 hkg).keep (Keep.setCell (S := fun i => i = b + 1 + 1) wg (p := ⟨b + 1 + 1, 1, none⟩) (.int .i64 z1) rfl) (by omega)
      obtain ⟨y0, y1, y2, y3⟩ := (H3.out.keep0 hkg).cells
      have h3 := (H3.out.keep0 hkg).set1 z1
      clear hRl c0 c1 e0 e1 f0 f1 hkg hwg
      go_wp2_with fail
      go_roundw
      case rel => exact ⟨2, p, z1, .inr (.inr rfl), rfl, h1, h2, h3, fun _ => HP.out (by omega), fun _ => rfl, HKg.out.setNew (by have := HB.out; dsimp only; omega) _⟩
      case measure => simp [intOf]
    · obtain rfl : p = z0 := HP.out (by omega)
      obtain rfl : q = z1 := HQ.out (by omega)
      clear hRl
      go_wp2_with fail
      exact bodyPost_ret (v := .agg #[.int .i64 p, .int .i64 q]) (by simp [results, Try.results33, go_sem, *]) rfl
        ⟨rfl, (HK.out.setNew (by have := HB.out; dsimp only; omega) _).setNew (by have := HB.out; dsimp only; omega) _⟩
end Go.Proofs.Ytfoklfifgmacfaa
