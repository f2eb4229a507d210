/- The walk of WindowNobody: it returns true and turns nothing that was there. -/
import Derived.Test.YtffkilfcphbbdaaW4
namespace Go.Proofs.Ytffkilfcphbbdaa
open Go.RowKit
set_option maxRecDepth 100000 in
set_option maxHeartbeats 1000000 in
theorem nobody_walk (z0 z1 z2 z3 : Int) (w : World) :
    Calls Try.prog 7 #[.agg #[.int .i64 z0, .int .i64 z1, .int .i64 z2, .int .i64 z3]] w fun e w' => e = .returned (.bool true) ∧ Below w.heap.size w w' := by
  go_enter Try.func7, Try.ntmps7
  go_wp2
  generalize hwz : ((w.alloc (Obj.cells #[Value.int IntKind.i64 z0, Value.int IntKind.i64 z1, Value.int IntKind.i64 z2, Value.int IntKind.i64 z3] 39)).alloc
      (Obj.cells #[Value.int IntKind.i64 0, Value.int IntKind.i64 0, Value.int IntKind.i64 0, Value.int IntKind.i64 0, Value.int IntKind.i64 0] 48)).alloc
      (Obj.cells #[Value.pointer none, Value.pointer (some { block := w.heap.size + 1, off := 0 })] 23) = wz
  have b0 : wz.heap[w.heap.size]? = some (Obj.cells #[Value.int IntKind.i64 z0, Value.int IntKind.i64 z1, Value.int IntKind.i64 z2, Value.int IntKind.i64 z3] 39) := by
    rw [← hwz, heap_alloc_old _ _ (by simp; omega), heap_alloc_old _ _ (by simp)]; exact heap_alloc_new w _
  have b1 : wz.heap[w.heap.size + 1]? = some (Obj.cells #[Value.int IntKind.i64 0, Value.int IntKind.i64 0, Value.int IntKind.i64 0, Value.int IntKind.i64 0, Value.int IntKind.i64 0] 48) := by
    rw [← hwz, heap_alloc_old _ _ (by simp)]; exact heap_alloc2_new w _ _
  have b2 : wz.heap[w.heap.size + 1 + 1]? = some (Obj.cells #[Value.pointer none, Value.pointer (some { block := w.heap.size + 1, off := 0 })] 23) := by
    rw [← hwz]; have := heap_alloc_new ((w.alloc (Obj.cells #[Value.int IntKind.i64 z0, Value.int IntKind.i64 z1, Value.int IntKind.i64 z2, Value.int IntKind.i64 z3] 39)).alloc
      (Obj.cells #[Value.int IntKind.i64 0, Value.int IntKind.i64 0, Value.int IntKind.i64 0, Value.int IntKind.i64 0, Value.int IntKind.i64 0] 48)) (Obj.cells #[Value.pointer none, Value.pointer (some { block := w.heap.size + 1, off := 0 })] 23)
    simpa using this
  have hk : Hid (Keep (fun _ => False) w wz) := by rw [← hwz]; exact ((Keep.alloc _ _ _).trans (Keep.alloc _ _ _)).trans (Keep.alloc _ _ _)
  clear hwz
  have HB := Lib.hid b1
  have c1 := cell_of b0 1
  have c2 := cell_of b0 2
  have c3 := cell_of b0 3
  have p0 := cell_of b2 0
  have p1 := cell_of b2 1
  simp at c1 c2 c3 p0 p1
  clear b0 b1 b2
  go_loop [11] (fun i => i = .int .i64 0 ∨ i = .int .i64 1 ∨ i = .int .i64 2) (fun i => (2 - intOf i).toNat)
  case atStart => exact .inl rfl
  case round =>
    rcases hrel with rfl | rfl | rfl
    · go_wp2_with (first
        | (go_at_call 9; refine (next_nil _ _ _ _).mono ?_; rintro e w' ⟨rfl, rfl⟩)
        | (go_at_call 13; refine (reset_nil _).mono ?_; rintro e w' ⟨rfl, rfl⟩)
        | (go_at_call 15; refine (zero3 15 (by omega) _ none (none_nil _)).mono ?_; rintro e w' ⟨rfl, rfl⟩)
        | (go_at_call 16; refine (zero3 16 (by omega) _ none (none_nil _)).mono ?_; rintro e w' ⟨rfl, rfl⟩)
        | (go_at_call 17; refine (zero3 17 (by omega) _ none (none_nil _)).mono ?_; rintro e w' ⟨rfl, rfl⟩))
      go_round
      case rel => exact .inr (.inl rfl)
      case measure => simp [intOf]
    · go_wp2_with (first
        | (go_at_call 9; refine (next_zero _ _ _ _ _ _ _ HB.out _ _ _).mono ?_; rintro e w' ⟨rfl, rfl⟩)
        | (go_at_call 13; refine (reset_zero _ _ _ _ _ _ _ HB.out).mono ?_; rintro e w' ⟨rfl, rfl⟩)
        | (go_at_call 15; refine (zero3 15 (by omega) _ _ (none_zero _ _ _ _ _ _ _ HB.out)).mono ?_; rintro e w' ⟨rfl, rfl⟩)
        | (go_at_call 16; refine (zero3 16 (by omega) _ _ (none_zero _ _ _ _ _ _ _ HB.out)).mono ?_; rintro e w' ⟨rfl, rfl⟩)
        | (go_at_call 17; refine (zero3 17 (by omega) _ _ (none_zero _ _ _ _ _ _ _ HB.out)).mono ?_; rintro e w' ⟨rfl, rfl⟩))
      go_round
      case rel => exact .inr (.inr rfl)
      case measure => simp [intOf]
    · go_wp2_with (go_at_call 11; refine (lives_ok _).mono ?_; rintro e w4 ⟨rfl, hk4⟩)
      go_ret
      exact ⟨rfl, Keep.below (hk.out.trans (by assumption)) (Nat.le_refl _) (fun _ h => h.elim)⟩
end Go.Proofs.Ytffkilfcphbbdaa
