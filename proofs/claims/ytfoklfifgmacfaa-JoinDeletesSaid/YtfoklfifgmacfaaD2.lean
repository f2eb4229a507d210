/- The cell of a delete, by DeleteWins. Walked. -/
import Derived.Test.YtfoklfifgmacfaaK5
namespace Go.Proofs.Ytfoklfifgmacfaa
open Go.RowKit
set_option maxHeartbeats 2000000 in
set_option maxRecDepth 100000 in
theorem of_any (p q : Int) (w : World) :
    Calls Try.prog 18 #[.int .i64 2, .agg #[.int .i64 1, .int .i64 1], .agg #[.int .i64 p, .int .i64 q], .bool true, .string ⟨#[]⟩] w fun e w' => (∃ b : Bool, vgood p q = b ∧ e = .returned (if b = true then .tuple #[.agg #[.int .i64 0, .int .i64 0, .int .i64 0, .int .i64 0, .bool false, .string ⟨#[]⟩, .int .i64 p, .int .i64 q], .int .i64 0] else .tuple #[.agg #[.int .i64 0, .int .i64 0, .int .i64 0, .int .i64 0, .bool false, .string ⟨#[]⟩, .int .i64 0, .int .i64 0], .int .i64 2])) ∧ Keep (fun _ => False) w w' := by
  have HS : Hid (∀ w, Calls Try.prog 30 #[.agg #[.int .i64 1, .int .i64 1]] w fun e w' => e = .returned (.bool true) ∧ Keep (fun _ => False) w w') := fun w => sgood_any 1 1 w
  have HV : Hid (∀ w, Calls Try.prog 28 #[.agg #[.int .i64 p, .int .i64 q]] w fun e w' => e = .returned (.bool (vgood p q)) ∧ Keep (fun _ => False) w w') := fun w => vgood_any p q w
  have H23 := fun w => equalIn23 9998 1 1 0 0 w
  simp only [show decide ((1 : Int) = 0 ∧ (1 : Int) = 0) = false by decide] at H23
  generalize vgood p q = bv at *
  go_enter Try.func18, Try.ntmps18
  go_upto_region 1 with fail
  obtain ⟨b, hb⟩ : ∃ b, b = w.heap.size := ⟨_, rfl⟩
  rw [← hb]
  generalize hw1 : w.alloc (Obj.cells #[Value.int IntKind.i64 1, Value.int IntKind.i64 1] 23) = w1
  generalize hw2 : w1.alloc (Obj.cells #[Value.int IntKind.i64 p, Value.int IntKind.i64 q] 25) = w2
  generalize hw3 : w2.alloc (Obj.cells #[.int .i64 0, .int .i64 0, .int .i64 0, .int .i64 0, .bool false, .string ⟨#[]⟩, .int .i64 0, .int .i64 0] 27) = w3
  have s1 : w1.heap.size = b + 1 := by rw [← hw1, hb]; simp
  have s2 : w2.heap.size = b + 1 + 1 := by rw [← hw2, ← s1]; simp
  have k3 : Keep (fun _ => False) w2 w3 := by rw [← hw3]; exact Keep.alloc _ _ _
  have k2 : Keep (fun _ => False) w1 w2 := by rw [← hw2]; exact Keep.alloc _ _ _
  have k1 : Keep (fun _ => False) w w1 := by rw [← hw1]; exact Keep.alloc _ _ _
  have H1 : Hid (w3.heap[b]? = some (.cells #[Value.int IntKind.i64 1, Value.int IntKind.i64 1] 23 (0, 0))) := by have : w1.heap[b]? = some (.cells #[Value.int IntKind.i64 1, Value.int IntKind.i64 1] 23 (0, 0)) := (by rw [← hw1, hb]; exact heap_alloc_new _ _); exact k3.heap (k2.heap this (fun h => h)) (fun h => h)
  have H2 : Hid (IsV w3 (b + 1) p q) := by have : IsV w2 (b + 1) p q := (by rw [← hw2, ← s1]; exact IsV.new w1 p q); exact this.keep0 k3
  have H3 : Hid (IsC w3 (b + 1 + 1) C.zero) := by rw [← hw3, ← s2]; exact IsC.new w2 C.zero
  have K0 : Hid (Keep (fun _ => False) w w3) := (k1.trans k2).trans k3
  have HR := Lib.hid hb
  clear hw1 hw2 hw3 s1 s2 k1 k2 k3 hb
  have g0 := cell_of H1.out 0
  have g1 := cell_of H1.out 1
  obtain ⟨e0, e1, _, _⟩ := H2.out.cells
  cases bv
  all_goals
    go_wp2_with (first
      | (go_at_call 30; with_reducible refine (HS.out _).mono ?_; rintro e w4 ⟨rfl, hk⟩; have HK := Lib.hid (K0.out.trans hk); have J1 := Lib.hid (hk.heap H1.out (fun h => h)); have J2 := Lib.hid (H2.out.keep0 hk); have J3 := Lib.hid (H3.out.keep0 hk); clear hk g0 g1 e0 e1; have g0 := cell_of J1.out 0; have g1 := cell_of J1.out 1; obtain ⟨e0, e1, _, _⟩ := J2.out.cells)
      | (go_at_call 28; with_reducible refine (HV.out _).mono ?_; rintro e w5 ⟨rfl, hk⟩; have HK := Lib.hid (HK.out.trans hk); have J2 := Lib.hid (J2.out.keep0 hk); have J3 := Lib.hid (J3.out.keep0 hk); clear hk g0 g1 e0 e1; obtain ⟨e0, e1, _, _⟩ := J2.out.cells; obtain ⟨f0, f1, f2, f3, f4, f5, f6, f7⟩ := J3.out.cells; have fz := J3.out.free; dsimp only [C.zero] at f0 f1 f2 f3 f4 f5 f6 f7))
  · exact bodyPost_ret (v := .tuple #[.agg #[.int .i64 0, .int .i64 0, .int .i64 0, .int .i64 0, .bool false, .string ⟨#[]⟩, .int .i64 0, .int .i64 0], .int .i64 2]) (by simp [results, Try.results18, go_sem, *]) rfl ⟨⟨false, rfl, rfl⟩, HK.out.step (Keep.set8 _ (b + 1 + 1) C.zero) (fun i hi => .inr (by have := HR.out; omega))⟩
  · exact bodyPost_ret (v := .tuple #[.agg #[.int .i64 0, .int .i64 0, .int .i64 0, .int .i64 0, .bool false, .string ⟨#[]⟩, .int .i64 p, .int .i64 q], .int .i64 0]) (by simp [results, Try.results18, go_sem, *]) rfl ⟨⟨true, rfl, rfl⟩, HK.out.step (Keep.set8 _ (b + 1 + 1) (C.zero.bury p q)) (fun i hi => .inr (by have := HR.out; omega))⟩
end Go.Proofs.Ytfoklfifgmacfaa
