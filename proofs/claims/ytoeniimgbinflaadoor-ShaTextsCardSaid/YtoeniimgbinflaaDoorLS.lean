/- What ShaSums does: it answers true. -/
import Derived.Test.YtoeniimgbinflaaDoorT4
import Derived.Test.YtoeniimgbinflaaDoorNB
namespace Go.Proofs.YtoeniimgbinflaaDoor
open Go.RowKit
theorem Parts.one {w : World} {b : Nat} {a : Option Addr} {cap : Nat} {xs : List UInt8} (h : w.heap[b]? = some (.cells #[.slice a xs.length cap] 22 (0, 0))) (hc : xs.length ≤ cap) (hb : Bl w a xs) : Parts w (some ⟨b, 0, none⟩) [xs] := fun i p hp => by
  match i, hp with
  | 0, hp =>
    simp only [List.getElem?_cons_zero, Option.some.injEq] at hp
    subst hp
    exact ⟨b, 0, a, cap, rfl, cell_of h 0, hc, hb⟩
  | i + 1, hp => simp at hp
theorem own_cap {w : World} {base n : Nat} {a : Option Addr} {cap : Nat} {vs : List Value} (h : w.ownsRow base 5 1 (.slice a n cap) n vs) : n ≤ cap := by
  obtain ⟨a', cap', e, h1, h2⟩ := own_len h
  simp only [Value.slice.injEq] at e
  obtain ⟨_, _, rfl⟩ := e
  exact h2
set_option maxHeartbeats 4000000 in
set_option maxRecDepth 100000 in
theorem sums_walk (w : World) (a : Option Addr) (cap : Nat) (xs : List UInt8) (hb : Bl w a xs) (ht : Tab w) (hm : xs.length ≤ maxLen) : Calls Tryd.prog 3 #[.slice a xs.length cap] w fun e w' => e = .returned (.bool true) ∧ Keep (fun _ => False) w w' := by
  obtain ⟨q, hq⟩ : ∃ q, w.heap.size = q := ⟨_, rfl⟩
  have HQ := Lib.hid hq
  obtain ⟨n, hnl⟩ : ∃ n, xs.length = n := ⟨_, rfl⟩
  have HN := Lib.hid hnl
  have HBL := Lib.hid hb
  have HT := Lib.hid ht
  have HL : Hid (∀ W, Keep (fun _ => False) w W → Calls Tryd.prog 7 #[] W fun e w' => e = .returned (.bool true) ∧ Keep (fun _ => False) W w') := fun W k => lives_any W (HT.out.keep0 k)
  rw [hnl] at hm ⊢
  unfold maxLen at hm
  clear hb ht hnl
  by_cases h5 : 5000 < n
  · have h5' : (5000 : Int) < n := by omega
    go_enter Tryd.func3, Tryd.ntmps3
    go_wp2_with (go_at_call 7; with_reducible refine (HL.out _ (Keep.refl _ _)).mono ?_; rintro e W1 ⟨rfl, hk1⟩)
    exact bodyPost_ret (results_tmp Tryd.results3 _ _ _) rfl ⟨rfl, hk1⟩
  · have h5' : ¬ (5000 : Int) < n := by omega
    obtain ⟨X, hX⟩ : ∃ X, w.alloc (.cells #[] 5) = X := ⟨_, rfl⟩
    have HX : Hid (Keep (fun _ => False) w X) := by rw [← hX]; exact Keep.alloc _ _ _
    have hx0 : X.heap[q]? = some (.cells #[] 5 (0, 0)) := by rw [← hX, ← hq]; exact heap_alloc_new _ _
    have hbx : q ≤ X.heap.size := by rw [← hq]; exact HX.out.size
    go_enter Tryd.func3, Tryd.ntmps3
    go_wp2_with (at_builtin; refine wpList_copy_bl rfl _ _ rfl q q xs n HN.out a cap rfl rfl hbx (Nat.le_refl _) hx0 (HBL.out.keep0 HX.out) (by rw [HN.out]; omega) ?_)
    intro g1 cap1 W1 hown1 hk1
    have HO1 := Lib.hid (Bl.ofOwn hown1)
    have HCAP := Lib.hid (own_cap hown1)
    have HK1 : Hid (Keep (fun _ => False) w W1) := HX.out.trans hk1
    clear hown1 hk1 hX hx0 hbx HX hq
    obtain ⟨q1, hq1⟩ : ∃ q1, W1.heap.size = q1 := ⟨_, rfl⟩
    obtain ⟨V, hV⟩ : ∃ V, W1.alloc (.cells #[.slice (some ⟨g1, 0, none⟩) n cap1] 22) = V := ⟨_, rfl⟩
    have HKV : Hid (Keep (fun _ => False) W1 V) := by rw [← hV]; exact Keep.alloc _ _ _
    have hbv : V.heap[q1]? = some (.cells #[.slice (some ⟨g1, 0, none⟩) n cap1] 22 (0, 0)) := by rw [← hV, ← hq1]; exact heap_alloc_new _ _
    obtain ⟨D, hD⟩ : ∃ D, dig xs = D := ⟨_, rfl⟩
    have hDl : D.length = 32 := by rw [← hD]; exact dig_length xs
    obtain ⟨zs, hzs⟩ : ∃ zs, (bv D).toArray = zs := ⟨_, rfl⟩
    have HE : ∀ W, (Op.equalIn 10000 25 (.agg zs) (.agg zs)).run Tryd.prog W = .ok true W := fun W => by
      rw [← hzs, equal25 D D hDl hDl, beq_self_eq_true]
    have H8 : Hid (Calls Tryd.prog 8 #[.slice (some ⟨q1, 0, none⟩) 1 1] V fun e w' => e = .returned (.agg zs) ∧ Keep (fun _ => False) V w') := by
      have hp : Parts V (some ⟨q1, 0, none⟩) [xs] := Parts.one (cap := cap1) (by rw [HN.out]; exact hbv) (by rw [HN.out]; exact HCAP.out) (HO1.out.keep0 HKV.out)
      have hf : ([xs] : List (List UInt8)).flatten = xs := by simp
      have := sums_any V (some ⟨q1, 0, none⟩) 1 [xs] hp ((HT.out.keep0 HK1.out).keep0 HKV.out) (by show 1 ≤ _; omega) (by rw [hf, HN.out]; omega)
      rw [hf, hD, hzs] at this
      exact this
    have H9 : Hid (∀ W, Keep (fun _ => False) w W → Calls Tryd.prog 9 #[.slice a n cap] W fun e w' => e = .returned (.agg zs) ∧ Keep (fun _ => False) W w') := fun W k => by
      rw [← hzs, ← hD, ← HN.out]
      exact refsum_any W a cap xs (HBL.out.keep0 k) (by rw [HN.out]; omega)
    have HCV : Hid (∀ W (a' : Option Addr) (c : Nat), Bl W a' xs → (convert 22 9 (.slice a' n c)).run Tryd.prog W = .ok (.string ⟨xs.toArray⟩) W) := fun W a' c h => by rw [← HN.out]; exact h.conv c
    clear hD hDl hzs hbv
    generalize (⟨xs.toArray⟩ : ByteArray) = S at *
    go_wp2_with (first | (go_at_call 8; with_reducible refine H8.out.mono ?_; rintro e W2 ⟨rfl, hk2⟩; have HK2 := Lib.hid (HKV.out.trans hk2); clear hk2) | (go_at_call 9; with_reducible refine (H9.out _ (HK1.out.trans HK2.out)).mono ?_; rintro e W3 ⟨rfl, hk3⟩; have HK3 := Lib.hid (HK1.out.trans (HK2.out.trans hk3)); have hcv1 := HCV.out W3 _ cap1 (HO1.out.keep0 (HK2.out.trans hk3)); have hcv2 := HCV.out W3 _ cap (HBL.out.keep0 HK3.out); clear hk3) | (go_at_call 7; with_reducible refine (HL.out _ HK3.out).mono ?_; rintro e W4 ⟨rfl, hk4⟩; have HK4 := Lib.hid (HK3.out.trans hk4); clear hk4))
    exact bodyPost_ret (results_tmp Tryd.results3 _ _ _) rfl ⟨rfl, HK4.out⟩
end Go.Proofs.YtoeniimgbinflaaDoor
