/- What ShaTexts does: it answers true. -/
import Derived.Test.YtoeniimgbinflaaDoorU4
import Derived.Test.YtoeniimgbinflaaDoorU5
import Derived.Test.YtoeniimgbinflaaDoorLO
namespace Go.Proofs.YtoeniimgbinflaaDoor
open Go.RowKit
theorem wpList_load_want {P : Program} {ops : Array Oper} {rest : List Oper} {o : Oper} {a : Act} {w : World} {Q : Exit → Act → World → Prop} (ty : TypeId) (x : Operand) (ho : o.op = .load ty x) (hw : Region.wanted o (yielded ops a.tmps) = true)
    (g : Nat) (hx : a.eval x = .pointer (some ⟨g, 0, none⟩)) (t : TypeId) (cs : Array Value) (fr : Nat × Nat) (d : TypeDesc) (hg : w.heap[g]? = some (.cells cs t fr))
    (hu : P.underlying ty = some d) (hd : (match d with | .struct _ | .array _ _ => true | _ => false) = true) (hi : (P.info? ty).map (·.size) = some cs.size)
    (h : wpList P ops Q rest (a.put o.dst (.agg cs)) w) : wpList P ops Q (o :: rest) a w :=
  BigFrame.wpList_want hw fun _ hK => wp_load_row ty x ho g hx t cs fr d hg hu hd hi (hK _ _ h)
theorem put25 (W : World) (q : Nat) (hq : W.heap.size = q) (cs : Array Value) : Keep (fun _ => False) W ((W.alloc (.cells (bv (List.replicate 32 0)).toArray 25)).setRow q cs) ∧ ((W.alloc (.cells (bv (List.replicate 32 0)).toArray 25)).setRow q cs).heap[q]? = some (.cells cs 25 (0, 0)) :=
  ⟨(Keep.alloc _ _ _).rowNew (by rw [hq]; exact Nat.le_refl _) _, setRow_heap _ _ _ _ 25 (0, 0) (by rw [← hq]; exact heap_alloc_new _ _)⟩
theorem new25 (W : World) (q : Nat) (hq : W.heap.size = q) : (W.alloc (.cells (bv (List.replicate 32 0)).toArray 25)).heap[q]? = some (.cells (bv (List.replicate 32 0)).toArray 25 (0, 0)) := by rw [← hq]; exact heap_alloc_new _ _
set_option maxHeartbeats 4000000 in
set_option maxRecDepth 100000 in
theorem texts_walk (w : World) (D : List UInt8) (hD : D.length = 32) (S : ByteArray) (hm : S.size ≤ maxLen) (ht : Tab w) : Calls Tryd.prog 6 #[.agg (bv D).toArray, .string S] w fun e w' => e = .returned (.bool true) ∧ Keep (fun _ => False) w w' := by
  obtain ⟨q, hq⟩ : ∃ q, w.heap.size = q := ⟨_, rfl⟩
  have HT := Lib.hid ht
  have HL : Hid (∀ W, Keep (fun _ => False) w W → Calls Tryd.prog 7 #[] W fun e w' => e = .returned (.bool true) ∧ Keep (fun _ => False) W w') := fun W k => lives_any W (HT.out.keep0 k)
  have HDL := Lib.hid hD
  unfold maxLen at hm
  obtain ⟨X, hX⟩ : ∃ X, w.alloc (.cells (bv D).toArray 25) = X := ⟨_, rfl⟩
  have HX : Hid (Keep (fun _ => False) w X) := by rw [← hX]; exact Keep.alloc _ _ _
  have hb0 : X.heap[q]? = some (.cells (bv D).toArray 25 (0, 0)) := by rw [← hX, ← hq]; exact heap_alloc_new _ _
  have hi : ∀ l : List UInt8, l.length = 32 → (Tryd.prog.info? 25).map (·.size) = some (bv l).toArray.size := fun l h => by rw [List.size_toArray, bv_length, h]; kernel_rfl
  have HI := Lib.hid hi
  have HONE : Hid (∀ l : List UInt8, (bv l).toArray.all (·.oneCell') = true) := fun l => all_oneCell_toArray (bv_one l)
  have HOLD : Hid (∀ l : List UInt8, l.length = 32 → (bv (List.replicate 32 0)).toArray.size = (bv l).toArray.size) := fun l h => by rw [List.size_toArray, List.size_toArray, bv_length, bv_length, h]; rfl
  clear ht hi
  go_enter Tryd.func6, Tryd.ntmps6
  go_upto_region 1 with fail
  clear hX hq
  by_cases h1 : 1000 < S.size
  · have h1' : (1000 : Int) < S.size := by omega
    go_wp2_with (go_at_call 7; with_reducible refine (HL.out _ HX.out).mono ?_; rintro e W1 ⟨rfl, hk1⟩)
    exact bodyPost_ret (results_tmp Tryd.results6 _ _ _) rfl ⟨rfl, HX.out.trans hk1⟩
  · have h1' : ¬ (1000 : Int) < S.size := by omega
    obtain ⟨T, hT⟩ : ∃ T : ByteArray, (⟨(txt D).toArray⟩ : ByteArray) = T := ⟨_, rfl⟩
    have hTL : T.data.toList = txt D := by rw [← hT]
    have A14 : Hid (∀ W, Calls Tryd.prog 14 #[.agg (bv D).toArray] W fun e w' => e = .returned (.string T) ∧ Keep (fun _ => False) W w') := fun W => by rw [← hT]; exact text_any W D HDL.out
    have A17 : Hid (∀ W, Calls Tryd.prog 17 #[.agg (bv D).toArray] W fun e w' => e = .returned (.string T) ∧ Keep (fun _ => False) W w') := fun W => by rw [← hT]; exact reftext_any W D HDL.out
    have A15 : Hid (∀ W, Calls Tryd.prog 15 #[.string T] W fun e w' => e = .returned (.tuple #[.agg (bv D).toArray, .int .i64 0]) ∧ Keep (fun _ => False) W w') := fun W => by
      refine (read_any W T).mono fun e w' ⟨d, f, he, hc, hk⟩ => ?_
      rw [hTL] at hc
      rcases hc with ⟨_, rfl, rfl⟩ | ⟨hb, _⟩
      · rw [rcs_txt D HDL.out] at he; exact ⟨he, hk⟩
      · exact absurd (txt_hexes D HDL.out) hb
    obtain ⟨Y, F, hY, hok, A15S, A16S⟩ : ∃ (Y : List UInt8) (F : Int), Y.length = 32 ∧ (F = 0 ∧ (⟨(txt Y).toArray⟩ : ByteArray) = S ∨ F = 40) ∧ (∀ W, Calls Tryd.prog 15 #[.string S] W fun e w' => e = .returned (.tuple #[.agg (bv Y).toArray, .int .i64 F]) ∧ Keep (fun _ => False) W w') ∧ (∀ W, Calls Tryd.prog 16 #[.string S] W fun e w' => e = .returned (.tuple #[.agg (bv Y).toArray, .int .i64 F]) ∧ Keep (fun _ => False) W w') := by
      by_cases hx : Hexes S.data.toList
      · refine ⟨rcs S.data.toList 64, 0, rcs_length _ _, .inl ⟨rfl, by rw [txt_rcs _ hx]⟩, fun W => (read_any W S).mono fun e w' ⟨d, f, he, hc, hk⟩ => ?_, fun W => (refread_any W S).mono fun e w' ⟨d, f, he, hc, hk⟩ => ?_⟩
        all_goals
          rcases hc with ⟨_, rfl, rfl⟩ | ⟨hb, _⟩
          · exact ⟨he, hk⟩
          · exact absurd hx hb
      · refine ⟨List.replicate 32 0, 40, rfl, .inr rfl, fun W => (read_any W S).mono fun e w' ⟨d, f, he, hc, hk⟩ => ?_, fun W => (refread_any W S).mono fun e w' ⟨d, f, he, hc, hk⟩ => ?_⟩
        all_goals
          rcases hc with ⟨hb, _⟩ | ⟨_, rfl, rfl⟩
          · exact absurd hb hx
          · exact ⟨he, hk⟩
    have HYL := Lib.hid hY
    have HOK := Lib.hid hok
    have B15 := Lib.hid A15S
    have B16 := Lib.hid A16S
    have A14Y : Hid (∀ W, Calls Tryd.prog 14 #[.agg (bv Y).toArray] W fun e w' => e = .returned (.string ⟨(txt Y).toArray⟩) ∧ Keep (fun _ => False) W w') := fun W => text_any W Y HYL.out
    clear hT hTL hY hok A15S A16S
    have hiD := HI.out D HDL.out
    have hiY := HI.out Y HYL.out
    have hoD := HOLD.out D HDL.out
    have hoY := HOLD.out Y HYL.out
    have h1D := HONE.out D
    have h1Y := HONE.out Y
    have HED : Hid (∀ W, (Op.equalIn 10000 25 (.agg (bv D).toArray) (.agg (bv D).toArray)).run Tryd.prog W = .ok true W) := fun W => by rw [equal25 D D HDL.out HDL.out, beq_self_eq_true]
    have HEY : Hid (∀ W, (Op.equalIn 10000 25 (.agg (bv Y).toArray) (.agg (bv Y).toArray)).run Tryd.prog W = .ok true W) := fun W => by rw [equal25 Y Y HYL.out HYL.out, beq_self_eq_true]
    generalize (bv D).toArray = dv1 at *
    generalize (bv Y).toArray = yv1 at *
    go_upto_region 4 with (first | (go_at_call 14; with_reducible refine (A14.out _).mono ?_; rintro e W3 ⟨rfl, hk3⟩; have HK3 := Lib.hid hk3; clear hk3) | refine wpList_load_row rfl 25 (.tmp 2) rfl q rfl 25 dv1 (0, 0) _ hb0 Tryd.underlying25 rfl hiD ?_)
    have HB3 := Lib.hid (HK3.out.heap hb0 (fun h => h))
    clear hb0
    go_upto_region 5 with (first | (go_at_call 15; with_reducible refine (A15.out _).mono ?_; rintro e W4 ⟨rfl, hk4⟩; have HK4 := Lib.hid hk4; clear hk4; obtain ⟨q4, hq4⟩ : ∃ q4, W4.heap.size = q4 := ⟨_, rfl⟩) | refine wpList_store_row rfl 25 (.tmp 6) (.tmp 21) rfl q4 dv1 rfl rfl 25 _ (new25 W4 q4 hq4) hiD hoD h1D ?_)
    generalize hX4 : World.setRow _ q4 dv1 = X4
    have P4 : Hid (Keep (fun _ => False) W4 X4 ∧ X4.heap[q4]? = some (.cells dv1 25 (0, 0))) := by rw [← hX4]; exact put25 W4 q4 hq4 dv1
    clear hX4 hq4
    go_upto_region 6 with (first | (go_at_call 15; with_reducible refine (B15.out _).mono ?_; rintro e W5 ⟨rfl, hk5⟩; have HK5 := Lib.hid hk5; clear hk5; obtain ⟨q5, hq5⟩ : ∃ q5, W5.heap.size = q5 := ⟨_, rfl⟩) | refine wpList_store_row rfl 25 (.tmp 8) (.tmp 26) rfl q5 yv1 rfl rfl 25 _ (new25 W5 q5 hq5) hiY hoY h1Y ?_)
    generalize hX5 : World.setRow _ q5 yv1 = X5
    have P5 : Hid (Keep (fun _ => False) W5 X5 ∧ X5.heap[q5]? = some (.cells yv1 25 (0, 0))) := by rw [← hX5]; exact put25 W5 q5 hq5 yv1
    clear hX5 hq5
    go_upto_region 7 with (first | (go_at_call 16; with_reducible refine (B16.out _).mono ?_; rintro e W6 ⟨rfl, hk6⟩; have HK6 := Lib.hid hk6; clear hk6; obtain ⟨q6, hq6⟩ : ∃ q6, W6.heap.size = q6 := ⟨_, rfl⟩) | refine wpList_store_row rfl 25 (.tmp 10) (.tmp 31) rfl q6 yv1 rfl rfl 25 _ (new25 W6 q6 hq6) hiY hoY h1Y ?_)
    generalize hX6 : World.setRow _ q6 yv1 = X6
    have P6 : Hid (Keep (fun _ => False) W6 X6 ∧ X6.heap[q6]? = some (.cells yv1 25 (0, 0))) := by rw [← hX6]; exact put25 W6 q6 hq6 yv1
    clear hX6 hq6
    have k5 : Hid (Keep (fun _ => False) W4 W5) := P4.out.1.trans HK5.out |>.mono (fun _ h => h)
    have HKX : Hid (Keep (fun _ => False) w X6) := ((((HX.out.trans HK3.out).trans HK4.out).trans k5.out).trans (P5.out.1.trans HK6.out)).trans P6.out.1
    have b0 : X6.heap[q]? = some (.cells dv1 25 (0, 0)) := ((((HK4.out.trans k5.out).trans (P5.out.1.trans HK6.out)).trans P6.out.1)).heap HB3.out (fun h => h)
    have b4 : X6.heap[q4]? = some (.cells dv1 25 (0, 0)) := (HK5.out.trans ((P5.out.1.trans HK6.out).trans P6.out.1)).heap P4.out.2 (fun h => h)
    have b5 : X6.heap[q5]? = some (.cells yv1 25 (0, 0)) := (HK6.out.trans P6.out.1).heap P5.out.2 (fun h => h)
    have b6 := P6.out.2
    have HE1 := HED.out
    have HE2 := HEY.out
    clear hoD hoY h1D h1Y
    have BTail : True := trivial
    have HTLS : Hid (∀ W, Keep (fun _ => False) X6 W → Calls Tryd.prog 7 #[] W fun e w' => e = .returned (.bool true) ∧ Keep (fun _ => False) W w') := fun W k => HL.out W (HKX.out.trans k)
    rcases HOK.out with ⟨rfl, hS⟩ | rfl
    · rw [hS] at A14Y
      go_wp2_with (first
        | (go_at_call 17; with_reducible refine (A17.out _).mono ?_; rintro e W7 ⟨rfl, hk7⟩; have HK7 := Lib.hid hk7; clear hk7; have c0 := HK7.out.heap b0 (fun h => h); have c4 := HK7.out.heap b4 (fun h => h); have c5 := HK7.out.heap b5 (fun h => h); have c6 := HK7.out.heap b6 (fun h => h))
        | (go_at_call 7; with_reducible refine (HTLS.out _ (HK7.out.trans HK9.out)).mono ?_; rintro e W8 ⟨rfl, hk8⟩; have HK8 := Lib.hid hk8; clear hk8)
        | refine wpList_load_row rfl 25 (.tmp 2) rfl q rfl 25 dv1 (0, 0) _ b0 Tryd.underlying25 rfl hiD ?_
        | (refine wpList_load_want 25 (.tmp 6) rfl rfl q4 rfl 25 dv1 (0, 0) _ c4 Tryd.underlying25 rfl hiD ?_)
        | (refine wpList_load_want 25 (.tmp 2) rfl rfl q rfl 25 dv1 (0, 0) _ c0 Tryd.underlying25 rfl hiD ?_)
        | (refine wpList_load_want 25 (.tmp 8) rfl rfl q5 rfl 25 yv1 (0, 0) _ c5 Tryd.underlying25 rfl hiY ?_)
        | (refine wpList_load_want 25 (.tmp 10) rfl rfl q6 rfl 25 yv1 (0, 0) _ c6 Tryd.underlying25 rfl hiY ?_)
        | (go_at_call 14; with_reducible refine (A14Y.out _).mono ?_; rintro e W9 ⟨rfl, hk9⟩; have HK9 := Lib.hid hk9; clear hk9))
      exact bodyPost_ret (results_tmp Tryd.results6 _ _ _) rfl ⟨rfl, HKX.out.trans ((HK7.out.trans HK9.out).trans HK8.out)⟩
    · go_wp2_with (first
        | (go_at_call 17; with_reducible refine (A17.out _).mono ?_; rintro e W7 ⟨rfl, hk7⟩; have HK7 := Lib.hid hk7; clear hk7; have c0 := HK7.out.heap b0 (fun h => h); have c4 := HK7.out.heap b4 (fun h => h); have c5 := HK7.out.heap b5 (fun h => h); have c6 := HK7.out.heap b6 (fun h => h))
        | (go_at_call 7; with_reducible refine (HTLS.out _ HK7.out).mono ?_; rintro e W8 ⟨rfl, hk8⟩; have HK8 := Lib.hid hk8; clear hk8)
        | refine wpList_load_row rfl 25 (.tmp 2) rfl q rfl 25 dv1 (0, 0) _ b0 Tryd.underlying25 rfl hiD ?_
        | (refine wpList_load_want 25 (.tmp 6) rfl rfl q4 rfl 25 dv1 (0, 0) _ c4 Tryd.underlying25 rfl hiD ?_)
        | (refine wpList_load_want 25 (.tmp 2) rfl rfl q rfl 25 dv1 (0, 0) _ c0 Tryd.underlying25 rfl hiD ?_)
        | (refine wpList_load_want 25 (.tmp 8) rfl rfl q5 rfl 25 yv1 (0, 0) _ c5 Tryd.underlying25 rfl hiY ?_)
        | (refine wpList_load_want 25 (.tmp 10) rfl rfl q6 rfl 25 yv1 (0, 0) _ c6 Tryd.underlying25 rfl hiY ?_))
      exact bodyPost_ret (results_tmp Tryd.results6 _ _ _) rfl ⟨rfl, HKX.out.trans (HK7.out.trans HK8.out)⟩
end Go.Proofs.YtoeniimgbinflaaDoor
