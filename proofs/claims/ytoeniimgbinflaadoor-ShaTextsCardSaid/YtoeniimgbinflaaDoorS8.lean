/- Sum and Add where no call made a state; Sum of parts. -/
import Derived.Test.YtoeniimgbinflaaDoorS7
namespace Go.Proofs.YtoeniimgbinflaaDoor
open Go.RowKit
set_option maxHeartbeats 4000000 in
set_option maxRecDepth 100000 in
theorem sum_none (w : World) (p : Option Addr) (hp : ∀ W, Keep (fun _ => False) w W → Calls Tryd.prog 20 #[.pointer p] W fun e w' => e = .returned (.bool true) ∧ w' = W) : Calls Tryd.prog 13 #[.pointer p] w fun e w' => e = .returned (.agg (bv (List.replicate 32 0)).toArray) ∧ Keep (fun _ => False) w w' := by
  obtain ⟨q, hq⟩ : ∃ q, w.heap.size = q := ⟨_, rfl⟩
  have HQ := Lib.hid hq
  have HN := Lib.hid hp
  clear hp
  obtain ⟨cs, hcs⟩ : ∃ cs, bv (List.replicate 32 0) = cs := ⟨_, rfl⟩
  have ho : cs.toArray.all (·.oneCell') = true := by rw [← hcs]; exact all_oneCell_toArray (bv_one _)
  have hl : cs.length = 32 := by rw [← hcs]; rfl
  have hi25 : (Tryd.prog.info? 25).map (·.size) = some cs.toArray.size := by rw [List.size_toArray, hl]; kernel_rfl
  have HC := Lib.hid hcs
  rw [hcs]
  clear hl hcs
  go_enter Tryd.func13, Tryd.ntmps13
  go_upto_region 1 with fail
  rw [show ((Value.int IntKind.u8 0 :: Value.int IntKind.u8 0 :: Value.int IntKind.u8 0 :: Value.int IntKind.u8 0 :: Value.int IntKind.u8 0 :: Value.int IntKind.u8 0 :: Value.int IntKind.u8 0 :: Value.int IntKind.u8 0 :: Value.int IntKind.u8 0 :: Value.int IntKind.u8 0 :: Value.int IntKind.u8 0 :: Value.int IntKind.u8 0 :: Value.int IntKind.u8 0 :: Value.int IntKind.u8 0 :: Value.int IntKind.u8 0 :: Value.int IntKind.u8 0 :: Value.int IntKind.u8 0 :: Value.int IntKind.u8 0 :: Value.int IntKind.u8 0 :: Value.int IntKind.u8 0 :: Value.int IntKind.u8 0 :: Value.int IntKind.u8 0 :: Value.int IntKind.u8 0 :: Value.int IntKind.u8 0 :: Value.int IntKind.u8 0 :: Value.int IntKind.u8 0 :: Value.int IntKind.u8 0 :: Value.int IntKind.u8 0 :: Value.int IntKind.u8 0 :: Value.int IntKind.u8 0 :: Value.int IntKind.u8 0 :: Value.int IntKind.u8 0 :: [] : List Value).toArray) = cs.toArray by rw [← HC.out]; rfl]
  obtain ⟨X, hX⟩ : ∃ X, w.alloc (.cells cs.toArray 25) = X := ⟨_, rfl⟩
  have HX : Hid (Keep (fun _ => False) w X) := by rw [← hX]; exact Keep.alloc _ _ _
  have hd : X.heap[q]? = some (.cells cs.toArray 25 (0, 0)) := by rw [← hX, ← hq]; exact heap_alloc_new _ _
  rw [hX]
  clear hX hq
  go_wp2_with (first | (go_at_call 20; with_reducible refine (HN.out _ HX.out).mono ?_; rintro e X ⟨rfl, rfl⟩) | refine wpList_load_row rfl 25 (.tmp 2) rfl q rfl 25 cs.toArray (0, 0) _ hd Tryd.underlying25 rfl hi25 ?_ | refine wpList_store_row rfl 25 (.tmp 2) (.tmp 10) rfl q cs.toArray rfl rfl 25 cs.toArray hd hi25 rfl ho ?_)
  rw [setRow_self _ _ _ _ _ hd]
  exact bodyPost_ret (results_cell_row Tryd.results13 _ _ q 25 _ _ _ rfl hd Tryd.underlying25 rfl hi25) rfl ⟨rfl, HX.out⟩
theorem add_nobody (w : World) (p : Option Addr) (v : Value) (hp : Calls Tryd.prog 20 #[.pointer p] w fun e w' => e = .returned (.bool true) ∧ w' = w) : Calls Tryd.prog 11 #[.pointer p, v] w fun e w' => e = .returned (.int .i64 1) ∧ w' = w := by
  have HN := Lib.hid hp
  clear hp
  go_enter Tryd.func11, Tryd.ntmps11
  go_wp2_with (go_at_call 20; with_reducible refine HN.out.mono ?_; rintro e w ⟨rfl, rfl⟩)
  go_ret
  exact ⟨rfl, rfl⟩
/-- Parts of bytes that can be read. -/
def Parts (w : World) (a : Option Addr) (ps : List (List UInt8)) : Prop := ∀ i p, ps[i]? = some p → ∃ b o ai ci, a = some ⟨b, o, none⟩ ∧ w.cell? ⟨b, o + i, none⟩ = some (.slice ai p.length ci) ∧ p.length ≤ ci ∧ Bl w ai p
theorem Parts.keep0 {w w' : World} {a : Option Addr} {ps : List (List UInt8)} (h : Parts w a ps) (k : Keep (fun _ => False) w w') : Parts w' a ps := fun i p hp => by
  obtain ⟨b, o, ai, ci, h1, h2, h3, h4⟩ := h i p hp
  exact ⟨b, o, ai, ci, h1, (k.rules.1 b _ (World.block_lt_of_cell? w _ h2)).trans h2, h3, h4.keep0 k⟩
theorem Bl.old {w : World} {a : Option Addr} {xs : List UInt8} (h : Bl w a xs) : ∀ ad, a = some ad → 0 < xs.length → ad.block < w.heap.size := fun ad he hl => by
  obtain ⟨b, o, e, hc⟩ := h 0 _ (List.getElem?_eq_getElem hl)
  rw [he] at e
  obtain rfl := Option.some.inj e
  exact World.block_lt_of_cell? w _ hc
theorem joined_take (ps : List (List UInt8)) (i : Nat) (p : List UInt8) (h : ps[i]? = some p) : (ps.take (i + 1)).flatten = (ps.take i).flatten ++ p := by
  rw [List.take_add_one, h, List.flatten_append]
  simp
theorem joined_length (ps : List (List UInt8)) (i : Nat) : (ps.take i).flatten.length ≤ ps.flatten.length := by
  conv => rhs; rw [← List.take_append_drop i ps, List.flatten_append, List.length_append]
  omega
set_option maxHeartbeats 4000000 in
set_option maxRecDepth 100000 in
theorem sums_any (w : World) (a : Option Addr) (cap : Nat) (ps : List (List UInt8)) (hp : Parts w a ps) (ht : Tab w) (hk : ps.length ≤ 100000000) (hn : ps.flatten.length < 500000000) : Calls Tryd.prog 8 #[.slice a ps.length cap] w fun e w' => e = .returned (.agg (bv (dig ps.flatten)).toArray) ∧ Keep (fun _ => False) w w' := by
  obtain ⟨q, hq⟩ : ∃ q, w.heap.size = q := ⟨_, rfl⟩
  have HQ := Lib.hid hq
  have HP := Lib.hid hp
  have HT := Lib.hid ht
  obtain ⟨m, hm⟩ : ∃ m, ps.length = m := ⟨_, rfl⟩
  have HM := Lib.hid hm
  rw [hm] at hk ⊢
  clear hp ht hm
  go_enter Tryd.func8, Tryd.ntmps8
  go_upto_region 1 with fail
  generalize hX : World.alloc w _ = X
  have HX : Hid (Keep (fun _ => False) w X) := by rw [← hX]; exact Keep.alloc _ _ _
  have HB : Hid (X.heap[q]? = some (.cells (bv (List.replicate 32 0)).toArray 25 (0, 0))) := by rw [← hX, ← hq]; exact heap_alloc_new _ _
  clear hX hq
  have HNEW : Hid (Calls Tryd.prog 10 #[] X fun e w' => ∃ sb, e = .returned (.pointer (some ⟨sb, 0, none⟩)) ∧ q + 1 ≤ sb ∧ StAt w' sb [] ∧ Keep (fun _ => False) X w') := (new_any X).mono fun e w' ⟨sb, h1, h2, h3⟩ => ⟨sb, h1, by have := lt_of_block HB.out; omega, h3⟩
  go_wp2_with (go_at_call 10; with_reducible refine HNEW.out.mono ?_; rintro e W1 ⟨sb, rfl, hsb, hs1, hk1⟩)
  have HS1 := Lib.hid hs1
  have HK1 : Hid (Keep (fun _ => False) w W1) := HX.out.trans hk1
  have HB1 : Hid (W1.heap[q]? = some (.cells (bv (List.replicate 32 0)).toArray 25 (0, 0))) := hk1.heap HB.out (fun h => h)
  clear hs1 hk1 HNEW HX HB
  go_loopw [9] (fun t wr => ∃ i : Nat, i ≤ m ∧ t = .int .i64 i ∧ StAt wr sb (ps.take i).flatten ∧ Keep (fun _ => False) w wr ∧ wr.heap[q]? = some (.cells (bv (List.replicate 32 0)).toArray 25 (0, 0))) (fun t _ => m - (intOf t).toNat)
  case atStart => exact ⟨0, by omega, rfl, HS1.out, HK1.out, HB1.out⟩
  case round =>
    obtain ⟨i, hi, rfl, hs, hk, hb⟩ := hrel
    have HS := Lib.hid hs
    have HK := Lib.hid hk
    have HB := Lib.hid hb
    clear hs hk hb
    by_cases hlt : i < m
    · have hlt' : (i : Int) < m := by omega
      obtain ⟨p, hp⟩ : ∃ p, ps[i]? = some p := ⟨_, List.getElem?_eq_getElem (by rw [HM.out]; exact hlt)⟩
      obtain ⟨b, o, ai, ci, rfl, hc0, hci, hb0⟩ := HP.out i p hp
      have hcell : wr.cell? ⟨b, o + i, none⟩ = some (.slice ai p.length ci) := (HK.out.rules.1 b _ (World.block_lt_of_cell? w _ hc0)).trans hc0
      have hbl := hb0.keep0 HK.out
      have hold := hb0.old
      have HJ : Hid ((ps.take (i + 1)).flatten = (ps.take i).flatten ++ p) := joined_take ps i p hp
      have hlen := joined_length ps (i + 1)
      rw [HJ.out, List.length_append] at hlen
      have hq1 : w.heap.size ≤ sb := by rw [HQ.out]; omega
      have A : Hid (Calls Tryd.prog 11 #[.pointer (some ⟨sb, 0, none⟩), .slice ai p.length ci] wr fun e w' => e = .returned (.int .i64 0) ∧ StAt w' sb ((ps.take i).flatten ++ p) ∧ Keep (fun k => k = sb) wr w') := by
        refine add_any wr sb _ ai ci p HS.out (HT.out.keep0 HK.out) (by have := HT.out.lt; omega) hbl (fun ad he hl => ?_) hci (by omega)
        have := hold ad he hl
        omega
      have hpl := hci
      clear hc0 hb0 hbl hold hlen hci hp
      generalize p.length = pl at *
      go_wp2_with (go_at_call 11; with_reducible refine A.out.mono ?_; rintro e W2 ⟨rfl, hs2, hk2⟩)
      have HST : Hid (StAt W2 sb (ps.take (i + 1)).flatten) := by rw [HJ.out]; exact hs2
      have HKT : Hid (Keep (fun _ => False) w W2) := HK.out.add hk2 hq1
      have HBT : Hid (W2.heap[q]? = some (.cells (bv (List.replicate 32 0)).toArray 25 (0, 0))) := hk2.heap HB.out (by omega)
      clear hs2 hk2
      exact ⟨⟨i + 1, by omega, by go_num, HST.out, HKT.out, HBT.out⟩, by simp [intOf]; omega⟩
    · have hge : ¬ (i : Int) < m := by omega
      have hfl : ps.take i = ps := List.take_of_length_le (by rw [HM.out]; omega)
      have hst := HS.out
      rw [hfl] at hst
      have HSU : Hid (Calls Tryd.prog 13 #[.pointer (some ⟨sb, 0, none⟩)] wr fun e w' => e = .returned (.agg (bv (dig ps.flatten)).toArray) ∧ Keep (fun _ => False) wr w') := sum_any wr sb _ hst (HT.out.keep0 HK.out) hn
      obtain ⟨cs, hcs⟩ : ∃ cs, bv (dig ps.flatten) = cs := ⟨_, rfl⟩
      have ho : cs.toArray.all (·.oneCell') = true := by rw [← hcs]; exact all_oneCell_toArray (bv_one _)
      have hl : cs.length = 32 := by rw [← hcs, bv_length]; exact dig_length _
      have hi25 : (Tryd.prog.info? 25).map (·.size) = some cs.toArray.size := by rw [List.size_toArray, hl]; kernel_rfl
      have hold : (bv (List.replicate 32 0)).toArray.size = cs.toArray.size := by rw [List.size_toArray, List.size_toArray, hl]; rfl
      have HC := Lib.hid hcs
      rw [hcs] at HSU
      clear hcs hst hfl hl HS hlt hi
      go_wp2_with (first | (go_at_call 13; with_reducible refine HSU.out.mono ?_; rintro e W6 ⟨rfl, hk6⟩; have HB6 := hk6.heap HB.out (fun h => h); have HK6 := Lib.hid (HK.out.trans hk6)) | refine wpList_store_row rfl 25 (.tmp 2) (.tmp 18) rfl q cs.toArray rfl rfl 25 _ HB6 hi25 hold ho ?_)
      have hfin := setRow_heap W6 q _ cs.toArray 25 (0, 0) HB6
      exact bodyPost_ret (results_cell_row Tryd.results8 _ _ q 25 _ _ _ rfl hfin Tryd.underlying25 rfl hi25) rfl ⟨by rw [HC.out], HK6.out.rowNew (by rw [HQ.out]; exact Nat.le_refl _) _⟩
end Go.Proofs.YtoeniimgbinflaaDoor
