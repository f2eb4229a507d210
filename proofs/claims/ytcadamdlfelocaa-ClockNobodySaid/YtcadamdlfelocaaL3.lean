/- The walk of ClockNobody: it returns true and turns nothing that was there. -/
import Derived.Test.YtcadamdlfelocaaL0
namespace Go.Proofs.Ytcadamdlfelocaa
open Go.RowKit
set_option maxRecDepth 100000 in
set_option maxHeartbeats 1000000 in
theorem nobody_walk (z0 z1 z2 z3 : Int) (w : World) :
    Calls Try.prog 6 #[.agg #[.int .i64 z0, .int .i64 z1, .int .i64 z2, .int .i64 z3]] w fun e w' => e = .returned (.bool true) ∧ Below w.heap.size w w' := by
  go_enter Try.func6, Try.ntmps6
  go_wp2
  generalize hwz : ((w.alloc (Obj.cells #[Value.int IntKind.i64 z0, Value.int IntKind.i64 z1, Value.int IntKind.i64 z2, Value.int IntKind.i64 z3] 32)).alloc
      (Obj.cells #[Value.int IntKind.i64 0, Value.int IntKind.i64 0, Value.int IntKind.i64 0, Value.int IntKind.i64 0] 56)).alloc
      (Obj.cells #[Value.pointer none, Value.pointer (some { block := w.heap.size + 1, off := 0 })] 24) = wz
  have b0 : wz.heap[w.heap.size]? = some (Obj.cells #[Value.int IntKind.i64 z0, Value.int IntKind.i64 z1, Value.int IntKind.i64 z2, Value.int IntKind.i64 z3] 32) := by
    rw [← hwz, heap_alloc_old _ _ (by simp; omega), heap_alloc_old _ _ (by simp)]; exact heap_alloc_new w _
  have b1 : wz.heap[w.heap.size + 1]? = some (Obj.cells #[Value.int IntKind.i64 0, Value.int IntKind.i64 0, Value.int IntKind.i64 0, Value.int IntKind.i64 0] 56) := by
    rw [← hwz, heap_alloc_old _ _ (by simp)]; exact heap_alloc2_new w _ _
  have b2 : wz.heap[w.heap.size + 1 + 1]? = some (Obj.cells #[Value.pointer none, Value.pointer (some { block := w.heap.size + 1, off := 0 })] 24) := by
    rw [← hwz]; have := heap_alloc_new ((w.alloc (Obj.cells #[Value.int IntKind.i64 z0, Value.int IntKind.i64 z1, Value.int IntKind.i64 z2, Value.int IntKind.i64 z3] 32)).alloc
      (Obj.cells #[Value.int IntKind.i64 0, Value.int IntKind.i64 0, Value.int IntKind.i64 0, Value.int IntKind.i64 0] 56)) (Obj.cells #[Value.pointer none, Value.pointer (some { block := w.heap.size + 1, off := 0 })] 24)
    simpa using this
  have hk : Hid (Keep (fun _ => False) w wz) := by rw [← hwz]; exact ((Keep.alloc _ _ _).trans (Keep.alloc _ _ _)).trans (Keep.alloc _ _ _)
  clear hwz
  obtain ⟨a0, ha0⟩ : ∃ a, a = w.heap.size := ⟨_, rfl⟩
  obtain ⟨a1, ha1⟩ : ∃ a, a = a0 + 1 := ⟨_, rfl⟩
  obtain ⟨a2, ha2⟩ : ∃ a, a = a1 + 1 := ⟨_, rfl⟩
  rw [← ha0] at b0 b1 b2 ⊢
  rw [← ha1] at b1 b2 ⊢
  rw [← ha2] at b2 ⊢
  have HA : Hid (a0 = w.heap.size) := ha0
  have B0 := Lib.hid b0
  have B1 := Lib.hid b1
  have B2 := Lib.hid b2
  clear b0 b1 b2 ha0 ha1 ha2
  go_loopw [13] (fun i wr => (i = .int .i64 0 ∨ i = .int .i64 1 ∨ i = .int .i64 2) ∧ Hid (Keep (fun _ => False) wz wr)) (fun i _ => (2 - intOf i).toNat)
  case atStart => exact ⟨.inl rfl, Keep.refl _ _⟩
  case round =>
    obtain ⟨hi, hkr⟩ := hrel
    have B0r := hkr.out.heap B0.out (fun h => h)
    have B1r := Lib.hid (hkr.out.heap B1.out (fun h => h))
    have B2r := hkr.out.heap B2.out (fun h => h)
    have c1 := cell_of B0r 1
    have c2 := cell_of B0r 2
    have c3 := cell_of B0r 3
    have p0 := cell_of B2r 0
    have p1 := cell_of B2r 1
    have l0 := lt_of_block B0r
    simp at c1 c2 c3 p0 p1
    have HB0 := Lib.hid B0r
    clear B0r B2r
    rcases hi with rfl | rfl | rfl
    · have HN : Hid (NoCk wr none) := .inl rfl
      go_wp2_with fail
      refine (nock_tick _ _ HN.out z1).mono ?_
      rintro e w1 ⟨rfl, k1⟩
      have N1 := Lib.hid (HN.out.keep0 k1)
      have HB1 := Lib.hid (k1.heap HB0.out (fun h => h))
      have d1 := cell_of HB1.out 1
      have m1 := lt_of_block HB1.out
      simp at d1
      have K1 := Lib.hid (hkr.out.trans k1)
      clear k1 c1 c2 c3 p0 p1 l0
      go_wp2_with fail
      generalize hx : w1.alloc (Obj.cells #[Value.int IntKind.i64 0, Value.int IntKind.i64 0] 29) = x1
      obtain ⟨q, hq⟩ : ∃ q, q = w1.heap.size := ⟨_, rfl⟩
      rw [← hq]
      have A1 : Hid (IsSt x1 q ⟨0, 0⟩) := by rw [← hx, hq]; exact heap_alloc_new w1 _
      have N2 : Hid (NoCk x1 none) := by rw [← hx]; exact N1.out.keep0 (Keep.alloc _ _ _)
      have K2 : Hid (Keep (fun _ => False) wz x1) := by rw [← hx]; exact K1.out.allocR _
      have HB2 : Hid (x1.heap[a0]? = some (Obj.cells #[Value.int IntKind.i64 z0, Value.int IntKind.i64 z1, Value.int IntKind.i64 z2, Value.int IntKind.i64 z3] 32)) := by rw [← hx]; exact (Keep.alloc (fun _ => False) w1 _).heap HB1.out (fun h => h)
      clear hx hq d1 m1
      refine (nock_peek _ _ N2.out z1).mono ?_
      rintro e w2 ⟨rfl, k2⟩
      have N3 := Lib.hid (N2.out.keep0 k2)
      have A2 := Lib.hid (A1.out.keep0 k2)
      have HB3 := Lib.hid (k2.heap HB2.out (fun h => h))
      have K3 := Lib.hid (K2.out.trans k2)
      clear k2
      go_upto_region 6 with fail
      generalize hx : w2.alloc (Obj.cells #[Value.int IntKind.i64 0, Value.int IntKind.i64 0] 29) = x2
      obtain ⟨q2, hq⟩ : ∃ q, q = w2.heap.size := ⟨_, rfl⟩
      rw [← hq]
      have A3 : Hid (IsSt x2 q ⟨0, 0⟩) := by rw [← hx]; exact A2.out.keep0 (Keep.alloc _ _ _)
      have C3 : Hid (IsSt x2 q2 ⟨0, 0⟩) := by rw [← hx, hq]; exact heap_alloc_new w2 _
      have N4 : Hid (NoCk x2 none) := by rw [← hx]; exact N3.out.keep0 (Keep.alloc _ _ _)
      have K4 : Hid (Keep (fun _ => False) wz x2) := by rw [← hx]; exact K3.out.allocR _
      have HB4 : Hid (x2.heap[a0]? = some (Obj.cells #[Value.int IntKind.i64 z0, Value.int IntKind.i64 z1, Value.int IntKind.i64 z2, Value.int IntKind.i64 z3] 32)) := by rw [← hx]; exact (Keep.alloc (fun _ => False) w2 _).heap HB3.out (fun h => h)
      clear hx hq
      obtain ⟨e1, e2, _, _⟩ := A3.out.cells
      obtain ⟨f1, f2, _, _⟩ := C3.out.cells
      have g2 := cell_of HB4.out 2
      have g3 := cell_of HB4.out 3
      have l1 := A3.out.lt
      have l2 := C3.out.lt
      have l3 := lt_of_block HB4.out
      simp at g2 g3
      dsimp only at e1 e2 f1 f2
      have hRl := (Later.rules x2).1
      refine wp_region_later (by kernel_rfl) (by kernel_rfl) ?_
      repeat (refine wpQuiet_step (fun K hK => ?_); go_simp; first | (refine hK _ ?_; clear hK K) | (apply Exists.intro; refine ⟨fun _ => ?_, hK _ ?_⟩; (first | (go_at_call 9; exact Later.call (nock_meet _ _ (N4.out.keep0 (Later.keep _)) z2 z3)) | (go_at_call 17; exact Later.call (nock_last _ _ (N4.out.keep0 (Later.keep _)))) | (go_at_call 18; exact Later.call ((nock_told _ _ (N4.out.keep0 (Later.keep _))).mono fun _ _ h => ⟨h.1, h.2 ▸ Keep.refl _ _⟩))); clear hK K))
      refine wpQuiet_nil ?_
      intro _ hw'
      obtain ⟨g, hw''⟩ := hw'
      subst hw''
      have hg := g.keep
      have K5 := Lib.hid (K4.out.trans hg)
      clear hRl hg
      go_wp2_with fail
      go_roundw
      case rel => exact ⟨.inr (.inl rfl), K5.out⟩
      case measure => simp [intOf]
    · have HN : Hid (NoCk wr (some ⟨a1, 0, none⟩)) := .inr ⟨a1, rfl, B1r.out⟩
      go_wp2_with fail
      refine (nock_tick _ _ HN.out z1).mono ?_
      rintro e w1 ⟨rfl, k1⟩
      have N1 := Lib.hid (HN.out.keep0 k1)
      have HB1 := Lib.hid (k1.heap HB0.out (fun h => h))
      have d1 := cell_of HB1.out 1
      have m1 := lt_of_block HB1.out
      simp at d1
      have K1 := Lib.hid (hkr.out.trans k1)
      clear k1 c1 c2 c3 p0 p1 l0
      go_wp2_with fail
      generalize hx : w1.alloc (Obj.cells #[Value.int IntKind.i64 0, Value.int IntKind.i64 0] 29) = x1
      obtain ⟨q, hq⟩ : ∃ q, q = w1.heap.size := ⟨_, rfl⟩
      rw [← hq]
      have A1 : Hid (IsSt x1 q ⟨0, 0⟩) := by rw [← hx, hq]; exact heap_alloc_new w1 _
      have N2 : Hid (NoCk x1 (some ⟨a1, 0, none⟩)) := by rw [← hx]; exact N1.out.keep0 (Keep.alloc _ _ _)
      have K2 : Hid (Keep (fun _ => False) wz x1) := by rw [← hx]; exact K1.out.allocR _
      have HB2 : Hid (x1.heap[a0]? = some (Obj.cells #[Value.int IntKind.i64 z0, Value.int IntKind.i64 z1, Value.int IntKind.i64 z2, Value.int IntKind.i64 z3] 32)) := by rw [← hx]; exact (Keep.alloc (fun _ => False) w1 _).heap HB1.out (fun h => h)
      clear hx hq d1 m1
      refine (nock_peek _ _ N2.out z1).mono ?_
      rintro e w2 ⟨rfl, k2⟩
      have N3 := Lib.hid (N2.out.keep0 k2)
      have A2 := Lib.hid (A1.out.keep0 k2)
      have HB3 := Lib.hid (k2.heap HB2.out (fun h => h))
      have K3 := Lib.hid (K2.out.trans k2)
      clear k2
      go_upto_region 6 with fail
      generalize hx : w2.alloc (Obj.cells #[Value.int IntKind.i64 0, Value.int IntKind.i64 0] 29) = x2
      obtain ⟨q2, hq⟩ : ∃ q, q = w2.heap.size := ⟨_, rfl⟩
      rw [← hq]
      have A3 : Hid (IsSt x2 q ⟨0, 0⟩) := by rw [← hx]; exact A2.out.keep0 (Keep.alloc _ _ _)
      have C3 : Hid (IsSt x2 q2 ⟨0, 0⟩) := by rw [← hx, hq]; exact heap_alloc_new w2 _
      have N4 : Hid (NoCk x2 (some ⟨a1, 0, none⟩)) := by rw [← hx]; exact N3.out.keep0 (Keep.alloc _ _ _)
      have K4 : Hid (Keep (fun _ => False) wz x2) := by rw [← hx]; exact K3.out.allocR _
      have HB4 : Hid (x2.heap[a0]? = some (Obj.cells #[Value.int IntKind.i64 z0, Value.int IntKind.i64 z1, Value.int IntKind.i64 z2, Value.int IntKind.i64 z3] 32)) := by rw [← hx]; exact (Keep.alloc (fun _ => False) w2 _).heap HB3.out (fun h => h)
      clear hx hq
      obtain ⟨e1, e2, _, _⟩ := A3.out.cells
      obtain ⟨f1, f2, _, _⟩ := C3.out.cells
      have g2 := cell_of HB4.out 2
      have g3 := cell_of HB4.out 3
      have l1 := A3.out.lt
      have l2 := C3.out.lt
      have l3 := lt_of_block HB4.out
      simp at g2 g3
      dsimp only at e1 e2 f1 f2
      have hRl := (Later.rules x2).1
      refine wp_region_later (by kernel_rfl) (by kernel_rfl) ?_
      repeat (refine wpQuiet_step (fun K hK => ?_); go_simp; first | (refine hK _ ?_; clear hK K) | (apply Exists.intro; refine ⟨fun _ => ?_, hK _ ?_⟩; (first | (go_at_call 9; exact Later.call (nock_meet _ _ (N4.out.keep0 (Later.keep _)) z2 z3)) | (go_at_call 17; exact Later.call (nock_last _ _ (N4.out.keep0 (Later.keep _)))) | (go_at_call 18; exact Later.call ((nock_told _ _ (N4.out.keep0 (Later.keep _))).mono fun _ _ h => ⟨h.1, h.2 ▸ Keep.refl _ _⟩))); clear hK K))
      refine wpQuiet_nil ?_
      intro _ hw'
      obtain ⟨g, hw''⟩ := hw'
      subst hw''
      have hg := g.keep
      have K5 := Lib.hid (K4.out.trans hg)
      clear hRl hg
      go_wp2_with fail
      go_roundw
      case rel => exact ⟨.inr (.inr rfl), K5.out⟩
      case measure => simp [intOf]
    · go_wp2_with (go_at_call 8; refine (lives_ok _).mono ?_; rintro e w4 ⟨rfl, hk4⟩)
      go_ret
      rename_i hk4
      exact ⟨rfl, Keep.below ((hk.out.trans hkr.out).trans hk4) (by have := HA.out; omega) (fun _ h => h.elim)⟩
end Go.Proofs.Ytcadamdlfelocaa
