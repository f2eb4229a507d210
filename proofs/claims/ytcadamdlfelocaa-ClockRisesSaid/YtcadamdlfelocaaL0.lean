/- The chapter's example of the clock, walked: it is true. -/
import Derived.Test.YtcadamdlfelocaaK5
namespace Go.Proofs.Ytcadamdlfelocaa
open Go.RowKit
set_option maxRecDepth 100000 in
set_option maxHeartbeats 1000000 in
theorem lives_ok (w : World) :
    Calls Try.prog 8 #[] w fun e w' => e = .returned (.bool true) ∧ Keep (fun _ => False) w w' := by
  go_enter Try.func8, Try.ntmps8
  go_wp2_with fail
  refine (cnew_ok 2 0 0 (.inr rfl) rfl _).mono ?_
  rintro e w0 ⟨b, hb, rfl, i0, k0⟩
  have I0 := Lib.hid i0
  have K0 := Lib.hid k0
  have HB := Lib.hid hb
  clear i0 k0 hb
  go_wp2_with fail
  refine (meet_ok _ b ⟨2, ⟨0, 0⟩, 0⟩ (by constructor <;> decide) I0.out 5 1 rfl).mono ?_
  rintro e w1 ⟨rfl, i1, k1⟩
  have I1 : Hid (IsCk w1 b 56 ⟨2, ⟨5, 1⟩, 0⟩) := i1
  have K1 := Lib.hid (K0.out.step k1 (fun i hi => .inr (by have := HB.out; omega)))
  clear i1 k1
  go_wp2_with fail
  refine (tick_ok _ b ⟨2, ⟨5, 1⟩, 0⟩ (by constructor <;> decide) I1.out 3 6 2 0 rfl).mono ?_
  rintro e w2 ⟨rfl, i2, k2⟩
  have I2 : Hid (IsCk w2 b 56 ⟨2, ⟨6, 2⟩, 1⟩) := i2
  have K2 := Lib.hid (K1.out.step k2 (fun i hi => .inr (by have := HB.out; omega)))
  clear i2 k2
  go_wp2_with fail
  generalize hx2 : w2.alloc (Obj.cells #[Value.int IntKind.i64 6, Value.int IntKind.i64 2] 29) = x2
  obtain ⟨q2, hq2⟩ : ∃ q, q = w2.heap.size := ⟨_, rfl⟩
  rw [← hq2]
  have A2 : Hid (IsSt x2 q2 ⟨6, 2⟩) := by rw [← hx2, hq2]; exact heap_alloc_new w2 _
  have B2 : Hid (b < q2) := by rw [hq2]; exact I2.out.lt
  have J2 : Hid (IsCk x2 b 56 ⟨2, ⟨6, 2⟩, 1⟩) := by rw [← hx2]; exact I2.out.keep0 (Keep.alloc _ _ _)
  have L2 : Hid (Keep (fun _ => False) w x2) := by rw [← hx2]; exact K2.out.allocR _
  clear hx2 hq2 I2 K2 I1 K1
  refine (tick_ok _ b ⟨2, ⟨6, 2⟩, 1⟩ (by constructor <;> decide) J2.out 9 9 2 0 rfl).mono ?_
  rintro e w3 ⟨rfl, i3, k3⟩
  have I3 : Hid (IsCk w3 b 56 ⟨2, ⟨9, 2⟩, 2⟩) := i3
  have A3 := Lib.hid (A2.out.keep k3 (by have := B2.out; omega))
  have K3 := Lib.hid (L2.out.step k3 (fun i hi => .inr (by have := HB.out; omega)))
  clear i3 k3
  go_wp2_with fail
  generalize hx3 : w3.alloc (Obj.cells #[Value.int IntKind.i64 9, Value.int IntKind.i64 2] 29) = x3
  obtain ⟨q3, hq3⟩ : ∃ q, q = w3.heap.size := ⟨_, rfl⟩
  rw [← hq3]
  have C3 : Hid (IsSt x3 q3 ⟨9, 2⟩) := by rw [← hx3, hq3]; exact heap_alloc_new w3 _
  have B3 : Hid (b < q3) := by rw [hq3]; exact I3.out.lt
  have D3 : Hid (IsSt x3 q2 ⟨6, 2⟩) := by rw [← hx3]; exact A3.out.keep0 (Keep.alloc _ _ _)
  have J3 : Hid (IsCk x3 b 56 ⟨2, ⟨9, 2⟩, 2⟩) := by rw [← hx3]; exact I3.out.keep0 (Keep.alloc _ _ _)
  have L3 : Hid (Keep (fun _ => False) w x3) := by rw [← hx3]; exact K3.out.allocR _
  clear hx3 hq3 I3 K3 A3 A2
  refine (tick_ok _ b ⟨2, ⟨9, 2⟩, 2⟩ (by constructor <;> decide) J3.out 0 10 2 0 rfl).mono ?_
  rintro e w4 ⟨rfl, i4, k4⟩
  have I4 : Hid (IsCk w4 b 56 ⟨2, ⟨10, 2⟩, 3⟩) := i4
  have E4 := D3.out.keep k4 (by have := B2.out; omega)
  have F4 := C3.out.keep k4 (by have := B3.out; omega)
  have K4 := Lib.hid (L3.out.step k4 (fun i hi => .inr (by have := HB.out; omega)))
  have c1 := E4.cells.1
  have c2 := F4.cells.1
  have l1 := E4.lt
  have l2 := F4.lt
  dsimp only at c1 c2
  clear i4 k4 E4 F4
  go_wp2_with (go_at_call 18; refine (told_ok _ b ⟨2, ⟨10, 2⟩, 3⟩ (by constructor <;> decide) (I4.out.keep0 (Keep.alloc _ _ _))).mono ?_; rintro e w' ⟨rfl, rfl⟩)
  go_ret
  exact ⟨rfl, K4.out.allocR _⟩
end Go.Proofs.Ytcadamdlfelocaa
