/- What ShaNobody does: it answers true. -/
import Derived.Test.YtoeniimgbinflaaDoorS10
import Derived.Stop.BytesEq
namespace Go.Proofs.YtoeniimgbinflaaDoor
open Go.RowKit
theorem equal25 (xs ys : List UInt8) (hx : xs.length = 32) (hy : ys.length = 32) (W : World) : (Op.equalIn 10000 25 (.agg (bv xs).toArray) (.agg (bv ys).toArray)).run Tryd.prog W = .ok (xs == ys) W :=
  run_equalIn_bytes W 9998 25 5 32 Tryd.underlying25 Tryd.underlying5 (fun _ => by kernel_rfl) xs ys hx hy
theorem len_nobody (w : World) (p : Option Addr) (hp : Calls Tryd.prog 20 #[.pointer p] w fun e w' => e = .returned (.bool true) ∧ w' = w) : Calls Tryd.prog 12 #[.pointer p] w fun e w' => e = .returned (.int .i64 0) ∧ w' = w := by
  have HN := Lib.hid hp
  clear hp
  go_enter Tryd.func12, Tryd.ntmps12
  go_wp2_with (go_at_call 20; with_reducible refine HN.out.mono ?_; rintro e w ⟨rfl, rfl⟩)
  go_ret
  exact ⟨rfl, rfl⟩
theorem built41 : ((Tryd.prog.built 41 []).getD #[])[0]? = some (.bool false) := by kernel_rfl
theorem built25 : (Tryd.prog.built 25 []).getD #[] = (bv (List.replicate 32 0)).toArray := by kernel_rfl
set_option maxHeartbeats 4000000 in
set_option maxRecDepth 100000 in
theorem nobody_any (w : World) (a : Option Addr) (n cap : Nat) (ht : Tab w) : Calls Tryd.prog 5 #[.slice a n cap] w fun e w' => e = .returned (.bool true) ∧ Keep (fun _ => False) w w' := by
  obtain ⟨q, hq⟩ : ∃ q, w.heap.size = q := ⟨_, rfl⟩
  have HQ := Lib.hid hq
  have HT := Lib.hid ht
  clear ht
  have hbl := built41
  obtain ⟨C, hC⟩ : ∃ C, (Tryd.prog.built 41 []).getD #[] = C := ⟨_, rfl⟩
  have HCC := Lib.hid hC
  rw [hC] at hbl
  clear hC
  go_enter Tryd.func5, Tryd.ntmps5
  go_upto_region 2 with (refine wpList_build rfl 41 _ rfl (by kernel_rfl) ?_)
  rw [show (Tryd.prog.built 41 []).getD #[] = C from HCC.out]
  obtain ⟨X, hX⟩ : ∃ X, (w.alloc (.cells C 41)).alloc (.cells #[.pointer none, .pointer (some ⟨q, 0, none⟩)] 30) = X := ⟨_, rfl⟩
  have HX : Hid (Keep (fun _ => False) w X) := by rw [← hX]; exact (Keep.alloc _ _ _).allocR _
  have hb0 : X.heap[q]? = some (.cells C 41 (0, 0)) := by rw [← hX, ← hq]; exact heap_alloc2_old w _ _
  have hb1 : X.heap[q + 1]? = some (.cells #[.pointer none, .pointer (some ⟨q, 0, none⟩)] 30 (0, 0)) := by rw [← hX, ← hq]; exact heap_alloc2_new w _ _
  have HP : Hid (∀ (i : Nat) (wr : World), i < 2 → Keep (fun _ => False) X wr → ∃ p, wr.cell? ⟨q + 1, i, none⟩ = some (.pointer p) ∧ ∀ W, Keep (fun _ => False) wr W → Calls Tryd.prog 20 #[.pointer p] W fun e w' => e = .returned (.bool true) ∧ w' = W) := fun i wr hi k => by
    match i, hi with
    | 0, _ => exact ⟨none, cell_of (k.heap hb1 (fun h => h)) 0, fun W _ => none_nil W⟩
    | 1, _ => exact ⟨some ⟨q, 0, none⟩, cell_of (k.heap hb1 (fun h => h)) 1, fun W k' => none_made W q false (by rw [cell_of (k'.heap (k.heap hb0 (fun h => h)) (fun h => h)) 0]; exact hbl)⟩
  clear hbl hb0 hb1 HCC
  try rw [hX]
  clear hX
  obtain ⟨zs, hzs⟩ : ∃ zs, (bv (List.replicate 32 0)).toArray = zs := ⟨_, rfl⟩
  have HE : ∀ W, (Op.equalIn 10000 25 (.agg zs) (.agg ((Value.int IntKind.u8 0 :: Value.int IntKind.u8 0 :: Value.int IntKind.u8 0 :: Value.int IntKind.u8 0 :: Value.int IntKind.u8 0 :: Value.int IntKind.u8 0 :: Value.int IntKind.u8 0 :: Value.int IntKind.u8 0 :: Value.int IntKind.u8 0 :: Value.int IntKind.u8 0 :: Value.int IntKind.u8 0 :: Value.int IntKind.u8 0 :: Value.int IntKind.u8 0 :: Value.int IntKind.u8 0 :: Value.int IntKind.u8 0 :: Value.int IntKind.u8 0 :: Value.int IntKind.u8 0 :: Value.int IntKind.u8 0 :: Value.int IntKind.u8 0 :: Value.int IntKind.u8 0 :: Value.int IntKind.u8 0 :: Value.int IntKind.u8 0 :: Value.int IntKind.u8 0 :: Value.int IntKind.u8 0 :: Value.int IntKind.u8 0 :: Value.int IntKind.u8 0 :: Value.int IntKind.u8 0 :: Value.int IntKind.u8 0 :: Value.int IntKind.u8 0 :: Value.int IntKind.u8 0 :: Value.int IntKind.u8 0 :: Value.int IntKind.u8 0 :: [] : List Value).toArray))).run Tryd.prog W = .ok true W := fun W => by
    rw [← hzs, show ((Value.int IntKind.u8 0 :: Value.int IntKind.u8 0 :: Value.int IntKind.u8 0 :: Value.int IntKind.u8 0 :: Value.int IntKind.u8 0 :: Value.int IntKind.u8 0 :: Value.int IntKind.u8 0 :: Value.int IntKind.u8 0 :: Value.int IntKind.u8 0 :: Value.int IntKind.u8 0 :: Value.int IntKind.u8 0 :: Value.int IntKind.u8 0 :: Value.int IntKind.u8 0 :: Value.int IntKind.u8 0 :: Value.int IntKind.u8 0 :: Value.int IntKind.u8 0 :: Value.int IntKind.u8 0 :: Value.int IntKind.u8 0 :: Value.int IntKind.u8 0 :: Value.int IntKind.u8 0 :: Value.int IntKind.u8 0 :: Value.int IntKind.u8 0 :: Value.int IntKind.u8 0 :: Value.int IntKind.u8 0 :: Value.int IntKind.u8 0 :: Value.int IntKind.u8 0 :: Value.int IntKind.u8 0 :: Value.int IntKind.u8 0 :: Value.int IntKind.u8 0 :: Value.int IntKind.u8 0 :: Value.int IntKind.u8 0 :: Value.int IntKind.u8 0 :: [] : List Value).toArray) = (bv (List.replicate 32 0)).toArray from rfl]
    exact equal25 _ _ rfl rfl W
  have HS : Hid (∀ W p, (∀ W', Keep (fun _ => False) W W' → Calls Tryd.prog 20 #[.pointer p] W' fun e w' => e = .returned (.bool true) ∧ w' = W') → Calls Tryd.prog 13 #[.pointer p] W fun e w' => e = .returned (.agg zs) ∧ Keep (fun _ => False) W w') := fun W p h => by rw [← hzs]; exact sum_none W p h
  clear hzs hq
  go_loopw [9] (fun t wr => ∃ i : Nat, i ≤ 2 ∧ t = .int .i64 i ∧ Keep (fun _ => False) X wr) (fun t _ => 2 - (intOf t).toNat)
  case atStart => exact ⟨0, by omega, rfl, Keep.refl _ _⟩
  case round =>
    obtain ⟨i, hi, rfl, hk⟩ := hrel
    have HK := Lib.hid hk
    clear hk
    by_cases hlt : i < 2
    · have hlt' : (i : Int) < 2 := by omega
      obtain ⟨p, hc, hn⟩ := HP.out i wr hlt HK.out
      have HN := Lib.hid hn
      have A11 : Hid (∀ v, Calls Tryd.prog 11 #[.pointer p, v] wr fun e w' => e = .returned (.int .i64 1) ∧ w' = wr) := fun v => add_nobody wr p v (HN.out _ (Keep.refl _ _))
      have A13 := Lib.hid (HS.out wr p HN.out)
      have A12 : Hid (∀ W, Keep (fun _ => False) wr W → Calls Tryd.prog 12 #[.pointer p] W fun e w' => e = .returned (.int .i64 0) ∧ w' = W) := fun W k => len_nobody W p (HN.out _ k)
      clear hn
      go_wp2_with (first | (go_at_call 11; with_reducible refine (A11.out _).mono ?_; rintro e W1 ⟨rfl, rfl⟩) | (go_at_call 13; with_reducible refine A13.out.mono ?_; rintro e W2 ⟨rfl, hk2⟩) | (go_at_call 12; with_reducible refine (A12.out _ hk2).mono ?_; rintro e W3 ⟨rfl, rfl⟩))
      exact ⟨⟨i + 1, by omega, by go_num, HK.out.trans hk2⟩, by simp [intOf]; omega⟩
    · have hge : ¬ (i : Int) < 2 := by omega
      have HL := Lib.hid (lives_any wr (HT.out.keep0 (HX.out.trans HK.out)))
      go_wp2_with (go_at_call 7; with_reducible refine HL.out.mono ?_; rintro e W5 ⟨rfl, hk5⟩)
      exact bodyPost_ret (v := .bool true) (by simp [results, Tryd.results5, go_sem]) rfl ⟨rfl, (HX.out.trans HK.out).trans hk5⟩
theorem nobody_below (w : World) (a : Option Addr) (n cap : Nat) (ht : Tab w) : Calls Tryd.prog 5 #[.slice a n cap] w fun e w' => e = .returned (.bool true) ∧ Below w.heap.size w w' :=
  (nobody_any w a n cap ht).mono fun _ _ ⟨h, k⟩ => ⟨h, k.below (Nat.le_refl _) (fun _ h => h.elim)⟩
end Go.Proofs.YtoeniimgbinflaaDoor
