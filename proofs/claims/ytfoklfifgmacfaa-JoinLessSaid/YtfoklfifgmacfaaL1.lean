/- The chapter's example, walked. -/
import Derived.Test.YtfoklfifgmacfaaK4
namespace Go.Proofs.Ytfoklfifgmacfaa
open Go.RowKit
def exX : C := ⟨5, 1, 0, 0, false, ⟨#[120]⟩, 0, 0⟩
def exY : C := ⟨5, 2, 0, 0, true, ⟨#[]⟩, 0, 0⟩
theorem ex1 : C.join [⟨5, 1, 0, 0, false, ⟨#[120]⟩, 0, 0⟩, ⟨5, 2, 0, 0, true, ⟨#[]⟩, 0, 0⟩] = ⟨5, 2, 0, 0, true, ⟨#[]⟩, 0, 0⟩ := by decide +kernel
theorem ex2 : C.within ⟨5, 2, 0, 0, true, ⟨#[]⟩, 0, 0⟩ ⟨5, 1, 0, 0, false, ⟨#[120]⟩, 0, 0⟩ = false := by decide +kernel
theorem ex3 : C.within ⟨5, 1, 0, 0, false, ⟨#[120]⟩, 0, 0⟩ ⟨5, 2, 0, 0, true, ⟨#[]⟩, 0, 0⟩ = true := by decide +kernel
set_option maxHeartbeats 2000000 in
theorem lives_any (w : World) : Calls Try.prog 9 #[] w fun e w' => e = .returned (.bool true) ∧ Keep (fun _ => False) w w' := by
  have HJ : Hid (∀ b w, w.heap[b]? = some (.cells #[.int .i64 5, .int .i64 1, .int .i64 0, .int .i64 0, .bool false, .string ⟨#[120]⟩, .int .i64 0, .int .i64 0, .int .i64 5, .int .i64 2, .int .i64 0, .int .i64 0, .bool true, .string ⟨#[]⟩, .int .i64 0, .int .i64 0] 27 (0, 0)) → Calls Try.prog 12 #[.slice (some ⟨b, 0, none⟩) 2 2] w fun e w' => e = .returned (.agg #[.int .i64 5, .int .i64 2, .int .i64 0, .int .i64 0, .bool true, .string ⟨#[]⟩, .int .i64 0, .int .i64 0]) ∧ Keep (fun _ => False) w w') := by
    intro b w h
    have := join_two 5 1 0 0 false ⟨#[120]⟩ 0 0 5 2 0 0 true ⟨#[]⟩ 0 0 b w h
    rwa [ex1] at this
  have HA : Hid (∀ w, Calls Try.prog 14 #[.agg #[.int .i64 5, .int .i64 2, .int .i64 0, .int .i64 0, .bool true, .string ⟨#[]⟩, .int .i64 0, .int .i64 0], .agg #[.int .i64 5, .int .i64 1, .int .i64 0, .int .i64 0, .bool false, .string ⟨#[120]⟩, .int .i64 0, .int .i64 0]] w fun e w' => e = .returned (.bool false) ∧ Keep (fun _ => False) w w') := by
    intro w
    have := within_any 5 2 0 0 true ⟨#[]⟩ 0 0 5 1 0 0 false ⟨#[120]⟩ 0 0 w
    rwa [ex2] at this
  have HB : Hid (∀ w, Calls Try.prog 14 #[.agg #[.int .i64 5, .int .i64 1, .int .i64 0, .int .i64 0, .bool false, .string ⟨#[120]⟩, .int .i64 0, .int .i64 0], .agg #[.int .i64 5, .int .i64 2, .int .i64 0, .int .i64 0, .bool true, .string ⟨#[]⟩, .int .i64 0, .int .i64 0]] w fun e w' => e = .returned (.bool true) ∧ Keep (fun _ => False) w w') := by
    intro w
    have := within_any 5 1 0 0 false ⟨#[120]⟩ 0 0 5 2 0 0 true ⟨#[]⟩ 0 0 w
    rwa [ex3] at this
  have H27 := fun w => equalIn27 9997 ⟨5, 2, 0, 0, true, ⟨#[]⟩, 0, 0⟩ ⟨5, 2, 0, 0, true, ⟨#[]⟩, 0, 0⟩ w
  simp only [decide_true] at H27
  go_enter Try.func9, Try.ntmps9
  go_upto_region 3 with fail
  obtain ⟨r, hr⟩ : ∃ r, r = w.heap.size := ⟨_, rfl⟩
  rw [← hr]
  generalize hw1 : w.alloc (Obj.cells #[.int .i64 5, .int .i64 1, .int .i64 0, .int .i64 0, .bool false, .string ⟨#[120]⟩, .int .i64 0, .int .i64 0] 27) = w1
  generalize hw2 : w1.alloc (Obj.cells #[.int .i64 5, .int .i64 2, .int .i64 0, .int .i64 0, .bool true, .string ⟨#[]⟩, .int .i64 0, .int .i64 0] 27) = w2
  have s1 : w1.heap.size = r + 1 := by rw [← hw1, hr]; simp
  have k2 : Keep (fun _ => False) w1 w2 := by rw [← hw2]; exact Keep.alloc _ _ _
  have k1 : Keep (fun _ => False) w w1 := by rw [← hw1]; exact Keep.alloc _ _ _
  have H1 : Hid (IsC w2 r ⟨5, 1, 0, 0, false, ⟨#[120]⟩, 0, 0⟩) := by have : IsC w1 r ⟨5, 1, 0, 0, false, ⟨#[120]⟩, 0, 0⟩ := (by rw [← hw1, hr]; exact IsC.new w ⟨5, 1, 0, 0, false, ⟨#[120]⟩, 0, 0⟩); exact this.keep0 k2
  have H2 : Hid (IsC w2 (r + 1) ⟨5, 2, 0, 0, true, ⟨#[]⟩, 0, 0⟩) := by rw [← hw2, ← s1]; exact IsC.new w1 ⟨5, 2, 0, 0, true, ⟨#[]⟩, 0, 0⟩
  have K0 : Hid (Keep (fun _ => False) w w2) := k1.trans k2
  clear hw1 hw2 s1 k1 k2 hr
  obtain ⟨c0, c1, c2, c3, c4, c5, c6, c7⟩ := H1.out.cells
  obtain ⟨e0, e1, e2, e3, e4, e5, e6, e7⟩ := H2.out.cells
  dsimp only at c0 c1 c2 c3 c4 c5 c6 c7 e0 e1 e2 e3 e4 e5 e6 e7
  go_upto_region 4 with (go_at_call 12; refine (HJ.out _ _ (heap_alloc_new w2 _)).mono ?_; rintro e w3 ⟨rfl, hk⟩; have hk' := (Keep.alloc _ _ _).trans hk; have A1 := Lib.hid (H1.out.keep0 hk'); have A2 := Lib.hid (H2.out.keep0 hk'); have KA := Lib.hid (K0.out.trans hk'); clear hk hk' c0 c1 c2 c3 c4 c5 c6 c7 e0 e1 e2 e3 e4 e5 e6 e7)
  generalize hw4 : w3.alloc (Obj.cells #[.int .i64 5, .int .i64 2, .int .i64 0, .int .i64 0, .bool true, .string ⟨#[]⟩, .int .i64 0, .int .i64 0] 27) = w4
  obtain ⟨q, hq⟩ : ∃ q, q = w3.heap.size := ⟨_, rfl⟩
  rw [← hq]
  have k4 : Keep (fun _ => False) w3 w4 := by rw [← hw4]; exact Keep.alloc _ _ _
  have B1 := Lib.hid (A1.out.keep0 k4)
  have B2 := Lib.hid (A2.out.keep0 k4)
  have B3 : Hid (IsC w4 q ⟨5, 2, 0, 0, true, ⟨#[]⟩, 0, 0⟩) := by rw [← hw4, hq]; exact IsC.new w3 ⟨5, 2, 0, 0, true, ⟨#[]⟩, 0, 0⟩
  have KB := Lib.hid (KA.out.trans k4)
  clear hw4 hq k4 A1 A2 KA H1 H2 K0
  obtain ⟨c0, c1, c2, c3, c4, c5, c6, c7⟩ := B1.out.cells
  obtain ⟨e0, e1, e2, e3, e4, e5, e6, e7⟩ := B2.out.cells
  obtain ⟨f0, f1, f2, f3, f4, f5, f6, f7⟩ := B3.out.cells
  dsimp only at c0 c1 c2 c3 c4 c5 c6 c7 e0 e1 e2 e3 e4 e5 e6 e7 f0 f1 f2 f3 f4 f5 f6 f7
  go_wp2_with (first
    | (go_at_call_of 14 (Value.agg #[.int .i64 5, .int .i64 2, .int .i64 0, .int .i64 0, .bool true, .string ⟨#[]⟩, .int .i64 0, .int .i64 0]); refine (HA.out _).mono ?_; rintro e w5 ⟨rfl, hk⟩; have D1 := Lib.hid (B1.out.keep0 hk); have D2 := Lib.hid (B2.out.keep0 hk); have KD := Lib.hid (KB.out.trans hk); clear hk c0 c1 c2 c3 c4 c5 c6 c7 e0 e1 e2 e3 e4 e5 e6 e7 f0 f1 f2 f3 f4 f5 f6 f7; obtain ⟨c0, c1, c2, c3, c4, c5, c6, c7⟩ := D1.out.cells; obtain ⟨e0, e1, e2, e3, e4, e5, e6, e7⟩ := D2.out.cells; dsimp only at c0 c1 c2 c3 c4 c5 c6 c7 e0 e1 e2 e3 e4 e5 e6 e7)
    | (go_at_call_of 14 (Value.agg #[.int .i64 5, .int .i64 1, .int .i64 0, .int .i64 0, .bool false, .string ⟨#[120]⟩, .int .i64 0, .int .i64 0]); refine (HB.out _).mono ?_; rintro e w6 ⟨rfl, hk⟩; have KE := Lib.hid (KD.out.trans hk); clear hk))
  go_ret
  exact ⟨rfl, KE.out⟩
end Go.Proofs.Ytfoklfifgmacfaa
