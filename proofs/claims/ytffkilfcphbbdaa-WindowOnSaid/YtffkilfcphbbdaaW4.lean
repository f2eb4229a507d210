/- The chapter's example of the window, walked: it is true. -/
import Derived.Test.YtffkilfcphbbdaaW3
namespace Go.Proofs.Ytffkilfcphbbdaa
open Go.RowKit
def x0 : Win := ⟨2, 3, 0, 0, 0⟩
def x1 : Win := ⟨2, 3, 0, 2, 0⟩
def x3 : Win := ⟨2, 3, 1, 3, 2⟩
def x5 : Win := ⟨2, 3, 1, 3, 5⟩
theorem x0ok : x0.Ok := by constructor <;> decide
theorem x1ok : x1.Ok := by constructor <;> decide
theorem x3ok : x3.Ok := by constructor <;> decide
theorem x5ok : x5.Ok := by constructor <;> decide
set_option maxRecDepth 100000 in
set_option maxHeartbeats 1000000 in
theorem lives_ok (w : World) :
    Calls Try.prog 11 #[] w fun e w' => e = .returned (.bool true) ∧ Keep (fun _ => False) w w' := by
  go_enter Try.func11, Try.ntmps11
  go_wp2_with fail
  refine (new_ok 2 3 _ (by omega)).mono ?_
  rintro e w' ⟨rfl, rfl⟩
  obtain ⟨b, hb⟩ : ∃ b, b = w.heap.size := ⟨_, rfl⟩
  obtain ⟨wa, hwa⟩ : ∃ wa, wa = w.alloc (.cells #[.int .i64 2, .int .i64 3, .int .i64 0, .int .i64 0, .int .i64 0] 48) := ⟨_, rfl⟩
  have i0 : IsWin wa b 48 x0 := by rw [hwa, hb]; exact heap_alloc_new w _
  have k0 : Keep (fun _ => False) w wa := by rw [hwa]; exact Keep.alloc _ _ _
  rw [← hwa, ← hb]
  have I0 := Lib.hid i0
  have K0 := Lib.hid k0
  have HB := Lib.hid hb
  clear hb i0 k0 hwa
  go_wp2_with fail
  refine (next_to _ _ x0 x0ok I0.out 0 5 0 rfl x1 2 [1, 2] rfl rfl rfl).mono ?_
  rintro e w1 ⟨a1, p1, rfl, i1, o1, k1⟩
  have I1 := Lib.hid i1
  have K1 := Lib.hid k1
  have O1 := Lib.hid o1
  clear i1 o1 k1
  go_wp2_with fail
  refine (next_to _ _ x1 x1ok I1.out 0 5 1 rfl x1 0 [] rfl rfl rfl).mono ?_
  rintro e w2 ⟨a2, p2, rfl, i2, o2, k2⟩
  have I2 := Lib.hid i2
  have K2 := Lib.hid k2
  have O2 := Lib.hid o2
  clear i2 o2 k2
  go_wp2_with fail
  refine (next_to _ _ x1 x1ok I2.out 1 5 2 rfl x3 1 [3] rfl rfl rfl).mono ?_
  rintro e w3 ⟨a3, p3, rfl, i3, o3, k3⟩
  have I3 := Lib.hid i3
  have K3 := Lib.hid k3
  have O3 := Lib.hid o3
  clear i3 o3 k3
  go_wp2_with fail
  refine (next_to _ _ x3 x3ok I3.out 1 5 4 rfl x3 0 [] rfl rfl rfl).mono ?_
  rintro e w4 ⟨a4, p4, rfl, i4, o4, k4⟩
  have I4 := Lib.hid i4
  have K4 := Lib.hid k4
  have O4 := Lib.hid o4
  clear i4 o4 k4
  go_wp2_with fail
  refine (next_to _ _ x3 x3ok I4.out 1 5 5 rfl x5 2 [2, 3] rfl rfl rfl).mono ?_
  rintro e w5 ⟨a5, p5, rfl, i5, o5, k5⟩
  have I5 := Lib.hid i5
  have K5 := Lib.hid k5
  have O5 := Lib.hid o5
  clear i5 o5 k5
  obtain ⟨g3, rfl, b3, q3⟩ := own_int O3.out 0 (by omega)
  obtain ⟨g5, rfl, b5, q5⟩ := own_int O5.out 0 (by omega)
  have hb2 := I2.out.lt
  have q3' : w5.cell? ⟨g3, 0, none⟩ = some (.int .i64 3) := by
    have h := World.block_lt_of_cell? _ _ q3
    dsimp only at h
    have h4 := K4.out.size
    rw [World.cell?_of_block (w := w4) (K5.out.block g3 (by omega) (by omega)), World.cell?_of_block (w := w3) (K4.out.block g3 (by omega) (by omega)), q3]
    rfl
  have q5' : w5.cell? ⟨g5, 0, none⟩ = some (.int .i64 2) := q5
  clear q3 q5 b3 b5 hb2
  go_wp2_with (go_at_call 17; refine (open_ok _ _ x5 x5ok I5.out).mono ?_; rintro e w' ⟨rfl, rfl⟩)
  go_ret
  refine ⟨rfl, ?_⟩
  have hs : ∀ i, i = b → False ∨ w.heap.size ≤ i := fun i hi => .inr (by have := HB.out; omega)
  exact ((((K0.out.step K1.out hs).step K2.out hs).step K3.out hs).step K4.out hs).step K5.out hs
end Go.Proofs.Ytffkilfcphbbdaa
