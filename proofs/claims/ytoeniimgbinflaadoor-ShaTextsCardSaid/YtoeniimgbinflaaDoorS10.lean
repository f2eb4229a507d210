/- The chapter's example. -/
import Derived.Test.YtoeniimgbinflaaDoorS9
import Derived.Lib.SlBytesConst
namespace Go.Proofs.YtoeniimgbinflaaDoor
open Go.RowKit
theorem txt_abc : txt (dig [97, 98, 99]) = [98, 97, 55, 56, 49, 54, 98, 102, 56, 102, 48, 49, 99, 102, 101, 97, 52, 49, 52, 49, 52, 48, 100, 101, 53, 100, 97, 101, 50, 50, 50, 51, 98, 48, 48, 51, 54, 49, 97, 51, 57, 54, 49, 55, 55, 97, 57, 99, 98, 52, 49, 48, 102, 102, 54, 49, 102, 50, 48, 48, 49, 53, 97, 100] := by rw [dig_abc]; decide +kernel
set_option maxHeartbeats 4000000 in
set_option maxRecDepth 100000 in
theorem lives_any (w : World) (ht : Tab w) : Calls Tryd.prog 7 #[] w fun e w' => e = .returned (.bool true) ∧ Keep (fun _ => False) w w' := by
  obtain ⟨q, hq⟩ : ∃ q, w.heap.size = q := ⟨_, rfl⟩
  obtain ⟨X, hX⟩ : ∃ X, (w.alloc (.cells #[.int .u8 97, .int .u8 98, .int .u8 99] 5 (3, 4))).alloc (.cells #[.slice (some ⟨q, 0, none⟩) 3 3] 22) = X := ⟨_, rfl⟩
  have HX : Hid (Keep (fun _ => False) w X) := by rw [← hX]; exact (Keep.alloc _ _ _).allocR _
  have hb0 : X.heap[q]? = some (.cells (bv [97, 98, 99]).toArray 5 (3, 4)) := by rw [← hX, ← hq]; exact heap_alloc2_old w _ _
  have hb1 : X.heap[q + 1]? = some (.cells #[.slice (some ⟨q, 0, none⟩) 3 3] 22 (0, 0)) := by rw [← hX, ← hq]; exact heap_alloc2_new w _ _
  obtain ⟨D, hD⟩ : ∃ D, dig [97, 98, 99] = D := ⟨_, rfl⟩
  have hDl : D.length = 32 := by rw [← hD]; exact dig_length _
  obtain ⟨s, hs⟩ : ∃ s : ByteArray, (⟨(txt D).toArray⟩ : ByteArray) = s := ⟨_, rfl⟩
  have HSUM : Hid (Calls Tryd.prog 8 #[.slice (some ⟨q + 1, 0, none⟩) 1 1] X fun e w' => e = .returned (.agg (bv D).toArray) ∧ Keep (fun _ => False) X w') := by
    have hp : Parts X (some ⟨q + 1, 0, none⟩) [[97, 98, 99]] := fun i p hp => by
      match i, hp with
      | 0, hp =>
        simp only [List.getElem?_cons_zero, Option.some.injEq] at hp
        subst hp
        exact ⟨q + 1, 0, some ⟨q, 0, none⟩, 3, rfl, cell_of hb1 0, Nat.le_refl _, Bl.ofRow hb0⟩
      | i + 1, hp => simp at hp
    have := sums_any X (some ⟨q + 1, 0, none⟩) 1 [[97, 98, 99]] hp (ht.keep0 HX.out) (by decide) (by decide)
    rw [show ([[97, 98, 99]] : List (List UInt8)).flatten = [97, 98, 99] from rfl, hD] at this
    exact this
  have HTX : Hid (∀ W, Calls Tryd.prog 14 #[.agg (bv D).toArray] W fun e w' => e = .returned (.string s) ∧ Keep (fun _ => False) W w') := fun W => by rw [← hs]; exact text_any W D hDl
  have HSV : Hid (s = ⟨#[98, 97, 55, 56, 49, 54, 98, 102, 56, 102, 48, 49, 99, 102, 101, 97, 52, 49, 52, 49, 52, 48, 100, 101, 53, 100, 97, 101, 50, 50, 50, 51, 98, 48, 48, 51, 54, 49, 97, 51, 57, 54, 49, 55, 55, 97, 57, 99, 98, 52, 49, 48, 102, 102, 54, 49, 102, 50, 48, 48, 49, 53, 97, 100]⟩) := by rw [← hs, ← hD, txt_abc]; exact Lib.hid rfl
  have HSL : (s.toList == [98, 97, 55, 56, 49, 54, 98, 102, 56, 102, 48, 49, 99, 102, 101, 97, 52, 49, 52, 49, 52, 48, 100, 101, 53, 100, 97, 101, 50, 50, 50, 51, 98, 48, 48, 51, 54, 49, 97, 51, 57, 54, 49, 55, 55, 97, 57, 99, 98, 52, 49, 48, 102, 102, 54, 49, 102, 50, 48, 48, 49, 53, 97, 100]) = true := by rw [HSV.out]; decide +kernel
  clear hs hD hDl hb0 hb1 ht HSV
  have HCV := Lib.run_convert_bytes_const (P := Tryd.prog) w 22 5 #[.int .u8 97, .int .u8 98, .int .u8 99] 3 3 Tryd.underlying22 Tryd.underlying5
  rw [hq] at HCV
  go_enter Tryd.func7, Tryd.ntmps7
  go_wp2_with (first | (go_at_call 8; with_reducible refine HSUM.out.mono ?_; rintro e W2 ⟨rfl, hk2⟩; have HK2 := Lib.hid (HX.out.trans hk2); clear hk2) | (go_at_call 14; with_reducible refine (HTX.out _).mono ?_; rintro e W3 ⟨rfl, hk3⟩; have HK3 := Lib.hid (HK2.out.trans hk3); clear hk3))
  exact bodyPost_ret (v := .bool true) (by simp [results, Tryd.results7, go_sem]) rfl ⟨rfl, HK3.out⟩
end Go.Proofs.YtoeniimgbinflaaDoor
