/- A state of bytes that come: how it lies in memory; that no call made takes nothing; New, Len. -/
import Derived.Test.YtoeniimgbinflaaDoorM2
import Derived.Laws.CopyOwn
namespace Go.Proofs.YtoeniimgbinflaaDoor
open Go.RowKit
def stc (s : H8) (wt : List UInt8) (n : Int) : List Value := Value.bool true :: (s.cs ++ (bv wt ++ [Value.int .i64 n]))
theorem stc_length (s : H8) (wt : List UInt8) (n : Int) (h : wt.length = 64) : (stc s wt n).length = 74 := by simp [stc, H8.cs, bv_length, h]
/-- The bytes that came, but for those of whole blocks, wait. -/
def Waits (l wt : List UInt8) : Prop := wt.length = 64 ∧ wt.take (l.length % 64) = l.drop (64 * (l.length / 64))
theorem waits_splice {l wt ys : List UInt8} (h : Waits l wt) (hk : l.length % 64 + ys.length ≤ 64) : (splice wt (l.length % 64) ys).length = 64 ∧ (splice wt (l.length % 64) ys).take (l.length % 64 + ys.length) = (l ++ ys).drop (64 * (l.length / 64)) := by
  obtain ⟨h1, h2⟩ := h
  refine ⟨by rw [length_splice _ _ _ (by omega), h1], ?_⟩
  unfold splice
  rw [← List.append_assoc, List.take_append_of_le_length (by simp; omega), List.take_of_length_le (by simp; omega), h2, List.drop_append_of_le_length (by omega)]
theorem waits_part {l wt ys : List UInt8} (h : Waits l wt) (hk : l.length % 64 + ys.length < 64) : Waits (l ++ ys) (splice wt (l.length % 64) ys) ∧ sums (l ++ ys) = sums l := by
  obtain ⟨h1, h2⟩ := waits_splice (ys := ys) h (by omega)
  have e1 : (l ++ ys).length % 64 = l.length % 64 + ys.length := by rw [List.length_append]; omega
  have e2 : (l ++ ys).length / 64 = l.length / 64 := by rw [List.length_append]; omega
  refine ⟨⟨h1, by rw [e1, e2]; exact h2⟩, ?_⟩
  unfold sums
  rw [e2, fold_append _ _ _ (by omega)]
theorem waits_full {l wt ys : List UInt8} (h : Waits l wt) (hk : l.length % 64 + ys.length = 64) : Waits (l ++ ys) (splice wt (l.length % 64) ys) ∧ sums (l ++ ys) = mixed (sums l) (splice wt (l.length % 64) ys) := by
  obtain ⟨h1, h2⟩ := waits_splice (ys := ys) h (by omega)
  have e1 : (l ++ ys).length % 64 = 0 := by rw [List.length_append]; omega
  have e2 : (l ++ ys).length / 64 = l.length / 64 + 1 := by rw [List.length_append]; omega
  rw [hk, List.take_of_length_le (by omega)] at h2
  refine ⟨⟨h1, by rw [e1, List.take_zero, List.drop_eq_nil_of_le (by rw [List.length_append] at e2 ⊢; omega)]⟩, ?_⟩
  unfold sums
  rw [e2, fold, fold_append _ _ _ (by omega), ← h2, List.take_of_length_le (by omega)]
/-- The state in block sb: these bytes came. -/
def StAt (w : World) (sb : Nat) (l : List UInt8) : Prop := ∃ wt, Waits l wt ∧ w.heap[sb]? = some (.cells (stc (sums l) wt l.length).toArray 41 (0, 0))
theorem StAt.keep {S : Nat → Prop} {w w' : World} {sb : Nat} {l : List UInt8} (h : StAt w sb l) (k : Keep S w w') (hs : ¬ S sb) : StAt w' sb l := by
  obtain ⟨wt, h1, h2⟩ := h
  exact ⟨wt, h1, k.heap h2 hs⟩
theorem StAt.keep0 {w w' : World} {sb : Nat} {l : List UInt8} (h : StAt w sb l) (k : Keep (fun _ => False) w w') : StAt w' sb l := h.keep k (fun h => h)
theorem stc_cells {w : World} {sb : Nat} {s : H8} {wt : List UInt8} {n : Int} {t : TypeId} (h : w.heap[sb]? = some (.cells (stc s wt n).toArray t (0, 0))) (hl : wt.length = 64) : w.cell? ⟨sb, 0, none⟩ = some (.bool true) ∧ w.cell? ⟨sb, 73, none⟩ = some (.int .i64 n) := by
  refine ⟨cell_of h 0, (cell_of h 73).trans ?_⟩
  have hc : s.cs.length = 8 := rfl
  rw [List.getElem?_toArray, stc, show (73 : Nat) = 72 + 1 from rfl, List.getElem?_cons_succ, List.getElem?_append_right (by omega), List.getElem?_append_right (by rw [bv_length, hl, hc]; decide), bv_length, hl, hc]
  rfl
theorem StAt.cells {w : World} {sb : Nat} {l : List UInt8} (h : StAt w sb l) : w.cell? ⟨sb, 0, none⟩ = some (.bool true) ∧ w.cell? ⟨sb, 73, none⟩ = some (.int .i64 l.length) := by
  obtain ⟨wt, h1, h2⟩ := h
  exact stc_cells h2 h1.1
theorem none_nil (w : World) : Calls Tryd.prog 20 #[.pointer none] w fun e w' => e = .returned (.bool true) ∧ w' = w := by
  go_enter Tryd.func20, Tryd.ntmps20
  go_wp2_with fail
  go_ret
  exact ⟨rfl, rfl⟩
theorem none_made (w : World) (sb : Nat) (m : Bool) (h : w.cell? ⟨sb, 0, none⟩ = some (.bool m)) : Calls Tryd.prog 20 #[.pointer (some ⟨sb, 0, none⟩)] w fun e w' => e = .returned (.bool !m) ∧ w' = w := by
  go_enter Tryd.func20, Tryd.ntmps20
  go_wp2_with fail
  go_ret
  exact ⟨rfl, rfl⟩
theorem len_nil (w : World) : Calls Tryd.prog 12 #[.pointer none] w fun e w' => e = .returned (.int .i64 0) ∧ w' = w := by
  go_enter Tryd.func12, Tryd.ntmps12
  go_wp2_with (go_at_call 20; with_reducible refine (none_nil _).mono ?_; rintro e W1 ⟨rfl, rfl⟩)
  go_ret
  exact ⟨rfl, rfl⟩
theorem len_not (w : World) (sb : Nat) (h : w.cell? ⟨sb, 0, none⟩ = some (.bool false)) : Calls Tryd.prog 12 #[.pointer (some ⟨sb, 0, none⟩)] w fun e w' => e = .returned (.int .i64 0) ∧ w' = w := by
  go_enter Tryd.func12, Tryd.ntmps12
  go_wp2_with (go_at_call 20; with_reducible refine (none_made _ sb false h).mono ?_; rintro e W1 ⟨rfl, rfl⟩)
  go_ret
  exact ⟨rfl, rfl⟩
theorem len_any (w : World) (sb : Nat) (l : List UInt8) (h : StAt w sb l) : Calls Tryd.prog 12 #[.pointer (some ⟨sb, 0, none⟩)] w fun e w' => e = .returned (.int .i64 l.length) ∧ w' = w := by
  obtain ⟨h0, h1⟩ := h.cells
  clear h
  go_enter Tryd.func12, Tryd.ntmps12
  go_wp2_with (go_at_call 20; with_reducible refine (none_made _ sb true h0).mono ?_; rintro e W1 ⟨rfl, rfl⟩)
  go_ret
  exact ⟨rfl, rfl⟩
theorem new_cells : (Tryd.prog.built 41 [(0, Value.bool true), (1, Value.agg #[Value.int IntKind.u32 1779033703, Value.int IntKind.u32 3144134277, Value.int IntKind.u32 1013904242, Value.int IntKind.u32 2773480762, Value.int IntKind.u32 1359893119, Value.int IntKind.u32 2600822924, Value.int IntKind.u32 528734635, Value.int IntKind.u32 1541459225])]).getD #[] = (stc init8 (List.replicate 64 0) 0).toArray := by kernel_rfl
set_option maxRecDepth 100000 in
theorem new_any (w : World) : Calls Tryd.prog 10 #[] w fun e w' => ∃ sb, e = .returned (.pointer (some ⟨sb, 0, none⟩)) ∧ w.heap.size ≤ sb ∧ StAt w' sb [] ∧ Keep (fun _ => False) w w' := by
  go_enter Tryd.func10, Tryd.ntmps10
  go_wp2_with (refine wpList_build rfl 41 _ rfl (by kernel_rfl) ?_)
  rw [new_cells]
  refine bodyPost_ret (v := .pointer (some ⟨w.heap.size, 0, none⟩)) (results_tmp Tryd.results10 _ _ _) rfl ⟨w.heap.size, rfl, Nat.le_refl _, ⟨List.replicate 64 0, ⟨rfl, rfl⟩, heap_alloc_new _ _⟩, Keep.alloc _ _ _⟩
end Go.Proofs.YtoeniimgbinflaaDoor
