/- A digest's text, as the reference makes it. -/
import Derived.Test.YtoeniimgbinflaaDoorS10
namespace Go.Proofs.YtoeniimgbinflaaDoor
open Go.RowKit
set_option maxHeartbeats 4000000 in
set_option maxRecDepth 100000 in
theorem reftext_any (w : World) (d : List UInt8) (hd : d.length = 32) : Calls Tryd.prog 17 #[.agg (bv d).toArray] w fun e w' => e = .returned (.string ⟨(txt d).toArray⟩) ∧ Keep (fun _ => False) w w' := by
  obtain ⟨q, hq⟩ : ∃ q, w.heap.size = q := ⟨_, rfl⟩
  have HQ := Lib.hid hq
  obtain ⟨ii, hi5, hz5, hby5, hs5⟩ := info5
  obtain ⟨X, hX⟩ : ∃ X, w.alloc (.cells (bv d).toArray 25) = X := ⟨_, rfl⟩
  have HX : Hid (Keep (fun _ => False) w X) := by rw [← hX]; exact Keep.alloc _ _ _
  have HB : Hid (X.heap[q]? = some (.cells (bv d).toArray 25 (0, 0))) := by rw [← hX, ← hq]; exact heap_alloc_new _ _
  go_enter Tryd.func17, Tryd.ntmps17
  go_wp2_with fail
  have HD : Hid (d.length = 32) := hd
  clear hX
  go_loopw [4, 5] (fun t3 t8 wr => ∃ (i : Nat) (a : Option Addr) (cap : Nat), i ≤ 32 ∧ t8 = .int .i64 i ∧ t3 = .slice a (i * 2) cap ∧ Keep (fun _ => False) w wr ∧ wr.ownsRow (q + 1) 5 1 (.slice a (i * 2) cap) (i * 2) (bv (txt (d.take i))) ∧ wr.heap[q]? = some (.cells (bv d).toArray 25 (0, 0))) (fun _ t8 _ => 32 - (intOf t8).toNat)
  case atStart => exact ⟨0, none, 0, by omega, rfl, rfl, HX.out, World.ownsRow_nil _ _ _ _, HB.out⟩
  case round =>
    obtain ⟨i, a, cap, hi, rfl, rfl, hk, ho, hb⟩ := hrel
    have HBD := Lib.hid hb
    have HK := Lib.hid hk
    have HO := Lib.hid ho
    clear hk ho hb
    by_cases hlt : i < 32
    · have hlt' : (i : Int) < 32 := by omega
      obtain ⟨x, hx⟩ : ∃ x, d[i]? = some x := ⟨_, List.getElem?_eq_getElem (by omega)⟩
      have HT : Hid (txt (d.take (i + 1)) = txt (d.take i) ++ hex2 x) := txt_take d i x hx
      have cx : wr.cell? ⟨q, i, none⟩ = some (.int .u8 (x.toNat : Int)) := (cell_of HBD.out i).trans (by rw [List.getElem?_toArray, bv, List.getElem?_map, hx]; rfl)
      have hql : q < wr.heap.size := lt_of_block HBD.out
      have hRl := (Later.rules wr).1
      have hx256 := UInt8.toNat_lt x
      obtain ⟨k1, hk1⟩ : ∃ k, x.toNat / 16 = k := ⟨_, rfl⟩
      obtain ⟨k2, hk2⟩ : ∃ k, x.toNat % 16 = k := ⟨_, rfl⟩
      have e1 : (x.toNat : Int).tdiv 16 = (k1 : Int) := by rw [Int.tdiv_eq_ediv_of_nonneg (by omega)]; omega
      have e2 : (x.toNat : Int).tmod 16 = (k2 : Int) := by rw [Int.tmod_eq_emod_of_nonneg (by omega)]; omega
      have e3 : IntKind.u8.wrap (k1 : Int) = (k1 : Int) := by rw [IntKind.wrap_u8']; omega
      have e4 : IntKind.u8.wrap (k2 : Int) = (k2 : Int) := by rw [IntKind.wrap_u8']; omega
      have i1 := fun W => run_index_hex W k1 (by omega)
      have i2 := fun W => run_index_hex W k2 (by omega)
      have HH : Hid (hex2 x = [hexd k1, hexd k2]) := by unfold hex2; rw [hk1, hk2]; exact Lib.hid rfl
      clear hx hk1 hk2 hx256
      generalize hexd k1 = y1 at *
      generalize hexd k2 = y2 at *
      go_wp2_with fail
      refine wp_region_later_from 1 13 (by kernel_rfl) (by kernel_rfl) (fun _ _ d _ _ h => by cases d <;> exact h) ?_
      simp only [List.take_succ_cons, List.take_zero, List.drop_succ_cons, List.drop_zero]
      repeat (refine wpMoves_step (fun K hK => ?_); go_simp; refine hK _ ?_; clear hK K)
      refine wpMoves_nil ?_
      repeat (refine wpQuiet_step (fun K hK => ?_); go_simp; first | (refine hK _ ?_; clear hK K) | (apply Exists.intro; refine ⟨fun _ => ?_, hK _ ?_⟩; (fail); clear hK K))
      refine wpQuiet_nil ?_
      intro Y hY0
      obtain ⟨g0, hY⟩ := hY0
      have HKY : Hid (Keep (fun _ => False) w Y) := hY ▸ HK.out.trans g0.keep
      have HBY : Hid (Y.heap[q]? = some (.cells (bv d).toArray 25 (0, 0))) := hY ▸ g0.keep.heap HBD.out (fun h => h)
      have HOY : Hid (Y.ownsRow (q + 1) 5 1 (.slice a (i * 2) cap) (i * 2) (bv (txt (d.take i)))) := hY ▸ ownsRow_keep HO.out g0.keep (fun _ _ _ h => h)
      clear hY g0 i1 i2 e1 e2 e3 e4 cx hql hRl HK HO HBD
      obtain ⟨q5, hq5⟩ : ∃ q5, Y.heap.size = q5 := ⟨_, rfl⟩
      have HQ5 := Lib.hid hq5
      have HNB : Hid (∀ x, (Value.slice a (i * 2) cap).ownBlock = some x → q + 1 ≤ x) := fun x hxx => (HOY.out.lt x hxx).1
      have hbase : q + 1 ≤ (Y.alloc (.cells #[.int .u8 (y1.toNat : Int), .int .u8 (y2.toNat : Int)] 5)).heap.size := Nat.le_trans (lt_of_block HBY.out) (by simp : Y.heap.size ≤ _)
      go_wp2_with (at_builtin; refine wpList_append_lies _ rfl _ _ 22 rfl (q + 1) 5 ii (.int .u8 0) 1 1 Tryd.underlying22 hi5 hz5 hs5 hby5 rfl (by decide) _ _ _ rfl (HOY.out.alloc _) ⟨q5, 0, none⟩ 2 2 [.int .u8 (y1.toNat : Int), .int .u8 (y2.toNat : Int)] rfl rfl (two_cells (by rw [← HQ5.out]; exact heap_alloc_new _ _)) (by intro u hu; simp only [List.mem_cons, List.not_mem_nil, or_false] at hu; rcases hu with rfl | rfl <;> rfl) (by decide) ?c3 ?c4 hbase _ rfl ?_)
      case c3 => unfold maxLen; omega
      case c4 => omega
      intro g cap' W5 hown hgrow hat hlt5
      have HK5 : Hid (Keep (fun _ => False) w W5) := (HKY.out.allocR _).step (Keep.grown hgrow) (fun x hx => .inr (by have := HNB.out x hx; rw [HQ.out]; omega))
      have HB5 : Hid (W5.heap[q]? = some (.cells (bv d).toArray 25 (0, 0))) := (Keep.grown hgrow).heap ((Keep.alloc (fun _ => False) _ _).heap HBY.out (fun h => h)) (fun h => by have := HNB.out q h; omega)
      have HO5 : Hid (W5.ownsRow (q + 1) 5 1 (.slice (some ⟨g, 0, none⟩) ((i + 1) * 2) cap') ((i + 1) * 2) (bv (txt (d.take (i + 1))))) := by
        rw [HT.out, HH.out, show (i + 1) * 2 = i * 2 + 2 by omega]
        have e : bv (txt (d.take i) ++ [y1, y2]) = bv (txt (d.take i)) ++ [.int .u8 (y1.toNat : Int), .int .u8 (y2.toNat : Int)] := by simp [bv]
        rw [e]; exact hown
      clear hown hgrow hat hlt5
      rw [show i * 2 + 2 = (i + 1) * 2 by omega]
      go_wp2_with fail
      exact ⟨⟨i + 1, some ⟨g, 0, none⟩, cap', by omega, by go_num, rfl, HK5.out, HO5.out, HB5.out⟩, by simp [intOf]; omega⟩
    · have hge : ¬ (i : Int) < 32 := by omega
      have hfl : d.take i = d := List.take_of_length_le (by have := HD.out; omega)
      have hbl := HO.out
      rw [hfl] at hbl
      have hl : i * 2 = (txt d).length := by rw [txt_length, HD.out]; omega
      have hcv := (Bl.ofOwn hbl).conv cap
      rw [← hl] at hcv
      obtain ⟨n2, hn2⟩ : ∃ n2, i * 2 = n2 := ⟨_, rfl⟩
      rw [hn2] at hcv ⊢
      clear hbl hfl hl hn2 HO hlt hi
      go_wp2_with fail
      exact bodyPost_ret (results_tmp Tryd.results17 _ _ _) rfl ⟨rfl, HK.out⟩
end Go.Proofs.YtoeniimgbinflaaDoor
