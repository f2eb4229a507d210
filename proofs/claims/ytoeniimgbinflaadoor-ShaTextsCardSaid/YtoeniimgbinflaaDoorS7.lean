/- Sum: the digest of all bytes that came. -/
import Derived.Test.YtoeniimgbinflaaDoorS6
namespace Go.Proofs.YtoeniimgbinflaaDoor
open Go.RowKit
theorem zero41 : ∃ Z : Array Value, Z.size = 74 ∧ ∀ W, (zeroValue 41).run Tryd.prog W = .ok (.agg Z) W :=
  ⟨(Value.bool false :: (List.replicate 8 (Value.int .u32 0) ++ (List.replicate 64 (Value.int .u8 0) ++ [Value.int .i64 0]))).toArray, rfl, fun W => by kernel_rfl⟩
theorem stc_one (s : H8) (wt : List UInt8) (n : Int) : (stc s wt n).toArray.all (·.oneCell') = true := by
  refine all_oneCell_toArray fun v hv => ?_
  unfold stc at hv
  simp only [List.mem_cons, List.mem_append, List.not_mem_nil, or_false] at hv
  rcases hv with rfl | hv | hv | rfl
  · rfl
  · unfold H8.cs at hv
    simp only [List.mem_cons, List.not_mem_nil, or_false] at hv
    rcases hv with rfl | rfl | rfl | rfl | rfl | rfl | rfl | rfl <;> rfl
  · exact bv_one wt v hv
  · rfl
theorem Keep.add {w0 w w' : World} {tb : Nat} (h : Keep (fun _ => False) w0 w) (k : Keep (fun i => i = tb) w w') (hb : w0.heap.size ≤ tb) : Keep (fun _ => False) w0 w' :=
  h.step k (fun i hi => .inr (by subst hi; exact hb))
theorem Bl.ofRow {w : World} {b : Nat} {xs : List UInt8} {t : TypeId} {fr : Nat × Nat} (h : w.heap[b]? = some (.cells (bv xs).toArray t fr)) : Bl w (some ⟨b, 0, none⟩) xs := fun i x hx => by
  refine ⟨b, 0, rfl, ?_⟩
  rw [Nat.zero_add, cell_of h, List.getElem?_toArray, bv, List.getElem?_map, hx]
  rfl
theorem apart_row {b sb n : Nat} (h : b ≠ sb) : ∀ ad, (some (⟨b, 0, none⟩ : Addr)) = some ad → 0 < n → ad.block ≠ sb := fun ad e _ => by
  obtain rfl := Option.some.inj e
  exact h
theorem made_bytes (k : Nat) : madeCells (Value.int .u8 0).cells k = (bv (List.replicate k 0)).toArray := by
  refine Array.ext_getElem? fun i => ?_
  unfold madeCells bv
  by_cases hi : i < k
  · simp [hi, Value.cells]
    rw [Nat.mod_one]; rfl
  · simp [hi]
theorem info5 : ∃ i, Tryd.prog.info? 5 = some i ∧ i.zero = some (.int .u8 0) ∧ i.bytes = 1 ∧ i.size = 1 := by
  have h : (Tryd.prog.info? 5).map (fun i => (i.zero, i.bytes, i.size)) = some (some (.int .u8 0), 1, 1) := by kernel_rfl
  obtain ⟨i, hi, he⟩ := Option.map_eq_some_iff.1 h
  simp only [Prod.mk.injEq] at he
  exact ⟨i, hi, he.1, he.2.1, he.2.2⟩
theorem make_bytes (w : World) (k : Nat) (h : k < 1000000) : ∃ V, (Instr.makeSlice 22 (.int .i64 (k : Int)) (.int .i64 (k : Int))).run Tryd.prog w = .ok (.slice (some ⟨w.heap.size, 0, none⟩) k k) V ∧ V.heap[w.heap.size]? = some (.cells (bv (List.replicate k 0)).toArray 5 (0, 0)) ∧ Keep (fun _ => False) w V := by
  obtain ⟨i, hi, hz, hb, hs⟩ := info5
  have hr := run_make (P := Tryd.prog) w 22 5 i (.int .u8 0) Tryd.underlying22 hi hz .i64 .i64 k k (by omega) (by omega) (by rw [hb]; omega) (by omega)
  rw [hs, Int.toNat_natCast, Nat.mul_one, made_bytes] at hr
  exact ⟨_, hr, heap_alloc_new _ _, Keep.alloc _ _ _⟩
/-- The number's bytes, as long as i of them are laid. -/
def e8 (n i : Nat) : List Value := [.int .u8 ((if 0 < i then lb n 0 else 0).toNat : Int), .int .u8 ((if 1 < i then lb n 1 else 0).toNat : Int), .int .u8 ((if 2 < i then lb n 2 else 0).toNat : Int), .int .u8 ((if 3 < i then lb n 3 else 0).toNat : Int), .int .u8 ((if 4 < i then lb n 4 else 0).toNat : Int), .int .u8 ((if 5 < i then lb n 5 else 0).toNat : Int), .int .u8 ((if 6 < i then lb n 6 else 0).toNat : Int), .int .u8 ((if 7 < i then lb n 7 else 0).toNat : Int)]
theorem e8_full (n : Nat) : e8 n 8 = bv (len8 n) := rfl
theorem e8_set (n i : Nat) (h : i < 8) : (e8 n i).set i (.int .u8 ((lb n i).toNat : Int)) = e8 n (i + 1) := by
  match i, h with
  | 0, _ => rfl
  | 1, _ => rfl
  | 2, _ => rfl
  | 3, _ => rfl
  | 4, _ => rfl
  | 5, _ => rfl
  | 6, _ => rfl
  | 7, _ => rfl
theorem e8_at (n i : Nat) (h : i < 8) : (e8 n i)[i]? = some (.int .u8 0) := by
  match i, h with
  | 0, _ => rfl
  | 1, _ => rfl
  | 2, _ => rfl
  | 3, _ => rfl
  | 4, _ => rfl
  | 5, _ => rfl
  | 6, _ => rfl
  | 7, _ => rfl
theorem lb_val (n i : Nat) : (8 * (n : Int)) / 2 ^ (56 - 8 * i) % 256 = ((lb n i).toNat : Int) := by
  unfold lb
  rw [UInt8.toNat_ofNat']
  have : (8 * (n : Int)) / 2 ^ (56 - 8 * i) = ((8 * n / 2 ^ (56 - 8 * i) : Nat) : Int) := by simp
  rw [this]
  omega
/-- The digest's bytes, as long as i of them are laid. -/
def dcs (s : H8) (i : Nat) : List Value := bv ((List.range i).map (db s)) ++ List.replicate (32 - i) (.int .u8 0)
theorem dcs_full (s : H8) : dcs s 32 = bv (digest s) := by unfold dcs digest; rw [Nat.sub_self, List.replicate_zero, List.append_nil]
theorem dcs_zero (s : H8) : dcs s 0 = bv (List.replicate 32 0) := by unfold dcs bv; rw [List.map_replicate]; rfl
theorem dcs_set (s : H8) (i : Nat) (h : i < 32) : (dcs s i).set i (.int .u8 ((db s i).toNat : Int)) = dcs s (i + 1) := by
  unfold dcs
  rw [List.set_append_right _ _ (by simp [bv]), List.range_succ, List.map_append]
  simp only [bv_length, List.length_map, List.length_range, Nat.sub_self]
  rw [show 32 - i = (32 - (i + 1)) + 1 by omega, List.replicate_succ]
  simp [bv]
theorem dcs_at (s : H8) (i : Nat) (h : i < 32) : (dcs s i)[i]? = some (.int .u8 0) := by
  unfold dcs
  rw [List.getElem?_append_right (by simp [bv])]
  simp only [bv_length, List.length_map, List.length_range, Nat.sub_self]
  rw [List.getElem?_replicate, if_pos (by omega)]
theorem dcs_length (s : H8) (i : Nat) (h : i ≤ 32) : (dcs s i).length = 32 := by simp [dcs, bv]; omega
theorem dcs_one (s : H8) (i : Nat) : (dcs s i).toArray.all (·.oneCell') = true := by
  refine all_oneCell_toArray fun v hv => ?_
  unfold dcs at hv
  rcases List.mem_append.1 hv with hv | hv
  · exact bv_one _ v hv
  · obtain rfl := (List.mem_replicate.1 hv).2; rfl
theorem db_val (s : H8) (i j r : Nat) (hj : i / 4 = j) (hr : i % 4 = r) : ((s.get j).toNat : Int) / 2 ^ (24 - r * 8) % 256 = ((db s i).toNat : Int) := by
  unfold db
  rw [UInt8.toNat_ofNat', hj, hr]
  have : ((s.get j).toNat : Int) / 2 ^ (24 - r * 8) = (((s.get j).toNat / 2 ^ (24 - r * 8) : Nat) : Int) := by simp
  rw [this]
  omega
set_option maxHeartbeats 4000000 in
set_option maxRecDepth 100000 in
theorem sum_any (w : World) (sb : Nat) (l : List UInt8) (h : StAt w sb l) (ht : Tab w) (hn : l.length < 500000000) : Calls Tryd.prog 13 #[.pointer (some ⟨sb, 0, none⟩)] w fun e w' => e = .returned (.agg (bv (dig l)).toArray) ∧ Keep (fun _ => False) w w' := by
  obtain ⟨q, hq⟩ : ∃ q, w.heap.size = q := ⟨_, rfl⟩
  have HQ := Lib.hid hq
  have H0 := Lib.hid h
  have HT := Lib.hid ht
  obtain ⟨Z, hZs, hZ⟩ := zero41
  have HN : Hid (∀ W, Keep (fun _ => False) w W → Calls Tryd.prog 20 #[.pointer (some ⟨sb, 0, none⟩)] W fun e w' => e = .returned (.bool false) ∧ w' = W) := fun W k => none_made W sb true (H0.out.keep0 k).cells.1
  obtain ⟨wt, hwt, hblk⟩ := h
  obtain ⟨sm, hsm⟩ : ∃ sm, sums l = sm := ⟨_, rfl⟩
  obtain ⟨n, hnl⟩ : ∃ n, l.length = n := ⟨_, rfl⟩
  rw [hsm, hnl] at hblk
  have HB : Hid (∀ W, Keep (fun _ => False) w W → W.heap[sb]? = some (.cells (stc sm wt n).toArray 41 (0, 0))) := fun W k => k.heap hblk (fun h => h)
  have hi41 : (Tryd.prog.info? 41).map (·.size) = some (stc sm wt n).toArray.size := by rw [List.size_toArray, stc_length _ _ _ hwt.1]; kernel_rfl
  have hsz : Z.size = (stc sm wt n).toArray.size := by rw [hZs, List.size_toArray, stc_length _ _ _ hwt.1]
  have ho := stc_one sm wt n
  have HG : Hid (∀ W : World, W.heap.size = q + 1 → (W.alloc (.cells Z 41)).heap[q + 1]? = some (.cells Z 41 (0, 0))) := fun W h => by rw [← h]; exact heap_alloc_new _ _
  have HWT := Lib.hid hwt
  have HNL := Lib.hid hnl
  have HSM := Lib.hid hsm
  clear ht hwt hblk hsm hnl hZs
  go_enter Tryd.func13, Tryd.ntmps13
  go_upto_region 4 with (first | (go_at_call 20; with_reducible refine (HN.out _ (Keep.alloc _ _ _)).mono ?_; rintro e W1 ⟨rfl, rfl⟩) | refine wpList_load_row rfl 41 (.tmp 12) rfl sb rfl 41 (stc sm wt n).toArray (0, 0) _ (HB.out _ (Keep.alloc _ _ _)) Tryd.underlying41 rfl hi41 ?_ | refine wpList_store_row rfl 41 (.tmp 3) (.tmp 13) rfl (q + 1) (stc sm wt n).toArray rfl rfl 41 Z (HG.out _ (by simp [HQ.out])) hi41 hsz ho ?_)
  generalize hX : World.setRow _ (q + 1) _ = X
  have HX : Hid (Keep (fun _ => False) w X) := by
    rw [← hX]; exact ((Keep.alloc _ _ _).allocR _).rowNew (by rw [HQ.out]; omega) _
  have HX1 : Hid (X.heap[q + 1]? = some (.cells (stc sm wt n).toArray 41 (0, 0))) := by
    rw [← hX]; exact setRow_heap _ _ Z _ 41 (0, 0) (HG.out _ (by simp [HQ.out]))
  have HX0 : Hid (X.heap[q]? = some (.cells (bv (List.replicate 32 0)).toArray 25 (0, 0))) := by
    rw [← hX, ← HQ.out]
    exact (setRow_other _ _ _ _ (by omega)).trans (heap_alloc2_old w _ _)
  clear hX HB HN HG hsz ho hi41 hZ hq
  have hl1 : (l ++ [128]).length = n + 1 := by rw [List.length_append, HNL.out]; rfl
  obtain ⟨q2, hq2⟩ : ∃ q2, X.heap.size = q2 := ⟨_, rfl⟩
  have HQ2 := Lib.hid hq2
  have hq12 : q + 1 < q2 := by rw [← hq2]; exact lt_of_block HX1.out
  have HS1 : Hid (StAt X (q + 1) l) := ⟨wt, HWT.out, by rw [HSM.out, HNL.out]; exact HX1.out⟩
  have A1 : Hid (Calls Tryd.prog 11 #[.pointer (some ⟨q + 1, 0, none⟩), .slice (some ⟨q2, 0, none⟩) 1 1] (X.alloc (.cells #[.int .u8 128] 5)) fun e w' => e = .returned (.int .i64 0) ∧ StAt w' (q + 1) (l ++ [128]) ∧ Keep (fun i => i = q + 1) (X.alloc (.cells #[.int .u8 128] 5)) w') := by
    have hbk : (X.alloc (.cells #[.int .u8 128] 5)).heap[q2]? = some (.cells (bv [128]).toArray 5 (0, 0)) := by rw [← hq2]; exact heap_alloc_new _ _
    exact add_any _ (q + 1) l (some ⟨q2, 0, none⟩) 1 [128] (HS1.out.keep0 (Keep.alloc _ _ _)) ((HT.out.keep0 HX.out).keep0 (Keep.alloc _ _ _)) (by omega) (Bl.ofRow hbk) (apart_row (by omega)) (by decide) (by have := HNL.out; simp only [List.length_cons, List.length_nil]; omega)
  have x73 := HS1.out.cells.2
  rw [HNL.out] at x73
  have hn5 : (n : Int) < 500000000 := by have := HNL.out; omega
  have w8 : wrap64 (8 * (n : Int)) = 8 * n := by unfold wrap64; omega
  go_upto_region 6 with (go_at_call 11; with_reducible refine A1.out.mono ?_; rintro e W2 ⟨rfl, hs2, hk2⟩)
  have HS2 := Lib.hid hs2
  have HK2 : Hid (Keep (fun _ => False) w W2) := (HX.out.allocR _).add hk2 (by rw [HQ.out]; omega)
  have HB2 : Hid (W2.heap[q]? = some (.cells (bv (List.replicate 32 0)).toArray 25 (0, 0))) := hk2.heap ((Keep.alloc (fun _ => False) _ _).heap HX0.out (fun h => h)) (by omega)
  clear hs2 hk2 A1 x73 HS1 HX0 HX1 hq12 HQ2 hq2 HX
  have y73 := HS2.out.cells.2
  rw [hl1] at y73
  obtain ⟨n1, hn1⟩ : ∃ n1, n + 1 = n1 := ⟨_, rfl⟩
  rw [hn1] at y73 hl1
  obtain ⟨r, hr⟩ : ∃ r, n1 % 64 = r := ⟨_, rfl⟩
  obtain ⟨z, hz⟩ : ∃ z, (120 - r) % 64 = z := ⟨_, rfl⟩
  have r1 : (n1 : Int).tmod 64 = r := by rw [Int.tmod_eq_emod_of_nonneg (by omega)]; omega
  have r2 : wrap64 (120 - (r : Int)) = 120 - r := by unfold wrap64; omega
  have r3 : (120 - (r : Int)).tmod 64 = z := by rw [Int.tmod_eq_emod_of_nonneg (by omega)]; omega
  have HZP : Hid (z = padz l.length) := Lib.hid (by rw [HNL.out, ← hz, ← hr, ← hn1]; rfl)
  have hz64 : z < 64 := by omega
  obtain ⟨V, hV1, hV2, hV3⟩ := make_bytes W2 z (by omega)
  obtain ⟨q3, hq3⟩ : ∃ q3, W2.heap.size = q3 := ⟨_, rfl⟩
  rw [hq3] at hV1 hV2
  have hlt3 : q + 1 < q3 := by rw [← hq3]; obtain ⟨_, _, hh⟩ := HS2.out; exact lt_of_block hh
  have HV2 := Lib.hid hV2
  have HV3 := Lib.hid hV3
  have HSV : Hid (StAt V (q + 1) (l ++ [128])) := HS2.out.keep0 hV3
  have hl2 : (l ++ [128] ++ List.replicate z 0).length = n1 + z := by rw [List.length_append, hl1, List.length_replicate]
  have hn5' : n1 < 500000001 := by omega
  have A2 : Hid (Calls Tryd.prog 11 #[.pointer (some ⟨q + 1, 0, none⟩), .slice (some ⟨q3, 0, none⟩) z z] V fun e w' => e = .returned (.int .i64 0) ∧ StAt w' (q + 1) (l ++ [128] ++ List.replicate z 0) ∧ Keep (fun i => i = q + 1) V w') := by
    have := add_any V (q + 1) (l ++ [128]) (some ⟨q3, 0, none⟩) z (List.replicate z 0) HSV.out ((HT.out.keep0 HK2.out).keep0 hV3) (by omega) (Bl.ofRow hV2) (apart_row (by omega)) (by rw [List.length_replicate]; exact Nat.le_refl _) (by rw [hl1, List.length_replicate]; omega)
    rwa [List.length_replicate] at this
  clear hV2 hV3 hr hz hn1 hq3
  go_upto_region 7 with (go_at_call 11; with_reducible refine A2.out.mono ?_; rintro e W3 ⟨rfl, hs3, hk3⟩)
  have HS3 := Lib.hid hs3
  have HK3 : Hid (Keep (fun _ => False) w W3) := (HK2.out.trans HV3.out).add hk3 (by rw [HQ.out]; omega)
  have HB3 : Hid (W3.heap[q]? = some (.cells (bv (List.replicate 32 0)).toArray 25 (0, 0))) := hk3.heap (HV3.out.heap HB2.out (fun h => h)) (by omega)
  clear hs3 hk3 A2 HS2 HK2 HB2 HV2 HV3 hV1 HSV y73 r1 r2 r3 hlt3
  obtain ⟨q4, hq4⟩ : ∃ q4, W3.heap.size = q4 := ⟨_, rfl⟩
  have HQ4 := Lib.hid hq4
  have hlt4 : q + 1 < q4 := by rw [← hq4]; obtain ⟨_, _, hh⟩ := HS3.out; exact lt_of_block hh
  go_upto_region 8 with fail
  generalize hX4 : World.alloc W3 _ = X4
  have HX4 : Hid (Keep (fun _ => False) W3 X4) := by rw [← hX4]; exact Keep.alloc _ _ _
  have HE4 : Hid (X4.heap[q4]? = some (.cells (e8 n 0).toArray 53 (0, 0))) := by rw [← hX4, ← hq4]; exact heap_alloc_new _ _
  clear hX4 hq4
  go_wp2_with fail
  go_loopw [26] (fun t wr => ∃ i : Nat, i ≤ 8 ∧ t = .int .i64 i ∧ Keep (fun _ => False) W3 wr ∧ wr.heap[q4]? = some (.cells (e8 n i).toArray 53 (0, 0))) (fun t _ => 8 - (intOf t).toNat)
  case atStart => exact ⟨0, by omega, rfl, HX4.out, HE4.out⟩
  case round =>
    obtain ⟨i, hi, rfl, hk, he⟩ := hrel
    have HK := Lib.hid hk
    have HE := Lib.hid he
    clear hk he
    by_cases hlt : i < 8
    · have hlt' : (i : Int) < 8 := by omega
      have ce : wr.cell? ⟨q4, i, none⟩ = some (.int .u8 0) := (cell_of HE.out i).trans (by rw [List.getElem?_toArray, e8_at n i hlt])
      have fz : wr.frozen? ⟨q4, i, none⟩ = false := free_of HE.out i
      have k1 : wrap64 (8 * (i : Int)) = 8 * i := by unfold wrap64; omega
      have hv := lb_val n i
      have HST := Lib.hid (e8_set n i hlt)
      generalize lb n i = bt at *
      go_wp2_with fail
      exact ⟨⟨i + 1, by omega, by go_num, HK.out.setNew (by rw [HQ4.out]; exact Nat.le_refl _) _, by rw [heap_setCell_at HE.out, List.setIfInBounds_toArray, HST.out]⟩, by simp [intOf]; omega⟩
    · have hE : wr.heap[q4]? = some (.cells (bv (len8 n)).toArray 53 (0, 0)) := by rw [← e8_full, ← show i = 8 by omega]; exact HE.out
      have hge : ¬ (i : Int) < 8 := by omega
      have HKW : Hid (Keep (fun _ => False) w wr) := HK3.out.trans HK.out
      have HBW : Hid (wr.heap[q]? = some (.cells (bv (List.replicate 32 0)).toArray 25 (0, 0))) := HK.out.heap HB3.out (fun h => h)
      have hpd : (l ++ [128] ++ List.replicate z 0) ++ len8 n = padded l := by unfold padded; rw [HZP.out, HNL.out]
      have A3 : Hid (Calls Tryd.prog 11 #[.pointer (some ⟨q + 1, 0, none⟩), .slice (some ⟨q4, 0, none⟩) 8 8] wr fun e w' => e = .returned (.int .i64 0) ∧ StAt w' (q + 1) (padded l) ∧ Keep (fun i => i = q + 1) wr w') := by
        have := add_any wr (q + 1) (l ++ [128] ++ List.replicate z 0) (some ⟨q4, 0, none⟩) 8 (len8 n) (HS3.out.keep0 HK.out) (HT.out.keep0 HKW.out) (by omega) (Bl.ofRow hE) (apart_row (by omega)) (Nat.le_refl _) (by rw [hl2]; show n1 + z + 8 < _; omega)
        rw [hpd] at this
        exact this
      clear hE hpd HE HK HK3 HB3 HS3 HX4 HE4 hlt hi
      go_wp2_with (go_at_call 11; with_reducible refine A3.out.mono ?_; rintro e W5 ⟨rfl, hs5, hk5⟩)
      have HS5 := Lib.hid hs5
      have HK5 : Hid (Keep (fun _ => False) w W5) := HKW.out.add hk5 (by rw [HQ.out]; omega)
      have HB5 : Hid (W5.heap[q]? = some (.cells (bv (List.replicate 32 0)).toArray 25 (0, 0))) := hk5.heap HBW.out (by omega)
      clear hs5 hk5 A3 HKW HBW hge
      obtain ⟨wp, hwp, hbp⟩ := HS5.out
      obtain ⟨sp, hsp⟩ : ∃ sp, sums (padded l) = sp := ⟨_, rfl⟩
      obtain ⟨np, hnp⟩ : ∃ np, (padded l).length = np := ⟨_, rfl⟩
      rw [hsp, hnp] at hbp
      have HFIN : Hid (dcs sp 32 = bv (dig l)) := by rw [dcs_full, ← hsp]; exact Lib.hid rfl
      have HBP := Lib.hid hbp
      clear hwp hbp hnp hsp HS5
      go_loopw [41] (fun t wr => ∃ i : Nat, i ≤ 32 ∧ t = .int .i64 i ∧ Keep (fun _ => False) w wr ∧ wr.heap[q]? = some (.cells (dcs sp i).toArray 25 (0, 0)) ∧ wr.heap[q + 1]? = some (.cells (stc sp wp np).toArray 41 (0, 0))) (fun t _ => 32 - (intOf t).toNat)
      case atStart => exact ⟨0, by omega, rfl, HK5.out, by rw [dcs_zero]; exact HB5.out, HBP.out⟩
      case round =>
        obtain ⟨i, hi, rfl, hk, hd, hs⟩ := hrel
        have HK := Lib.hid hk
        have HD := Lib.hid hd
        have HS := Lib.hid hs
        clear hk hd hs
        by_cases hlt : i < 32
        · have hlt' : (i : Int) < 32 := by omega
          obtain ⟨j, hj⟩ : ∃ j, i / 4 = j := ⟨_, rfl⟩
          obtain ⟨r, hr⟩ : ∃ r, i % 4 = r := ⟨_, rfl⟩
          have ce : wr.cell? ⟨q, i, none⟩ = some (.int .u8 0) := (cell_of HD.out i).trans (by rw [List.getElem?_toArray, dcs_at sp i hlt])
          have fz : wr.frozen? ⟨q, i, none⟩ = false := free_of HD.out i
          have cw : wr.cell? ⟨q + 1, 1 + j, none⟩ = some (.int .u32 ((sp.get j).toNat : Int)) := stc_sumsAt HS.out j _ (cs_at sp j (by omega))
          have j1 : (i : Int).tdiv 4 = j := by rw [Int.tdiv_eq_ediv_of_nonneg (by omega)]; omega
          have j2 : (i : Int).tmod 4 = r := by rw [Int.tmod_eq_emod_of_nonneg (by omega)]; omega
          have j3 : (j : Int) < 8 := by omega
          have j4 : (r : Int) < 4 := by omega
          have hv := db_val sp i j r hj hr
          have HST := Lib.hid (dcs_set sp i hlt)
          clear hj hr
          generalize db sp i = bt at *
          generalize sp.get j = wj at *
          go_wp2_with fail
          exact ⟨⟨i + 1, by omega, by go_num, HK.out.setNew (by rw [HQ.out]; exact Nat.le_refl _) _, by rw [heap_setCell_at HD.out, List.setIfInBounds_toArray, HST.out], Keep.heap (Keep.setCell (S := fun k => k = q) wr _ rfl) HS.out (by omega)⟩, by simp [intOf]; omega⟩
        · have hge : ¬ (i : Int) < 32 := by omega
          have hd := HD.out
          rw [show i = 32 by omega, HFIN.out] at hd
          obtain ⟨cs, hcs⟩ : ∃ cs, bv (dig l) = cs := ⟨_, rfl⟩
          have ho : cs.toArray.all (·.oneCell') = true := by rw [← hcs]; exact all_oneCell_toArray (bv_one _)
          have hl : cs.length = 32 := by rw [← hcs, bv_length]; exact dig_length l
          rw [hcs] at hd
          have HC := Lib.hid hcs
          have hi25 : (Tryd.prog.info? 25).map (·.size) = some cs.toArray.size := by rw [List.size_toArray, hl]; kernel_rfl
          clear HFIN hcs HS HD hlt hi hl
          go_wp2_with (first | refine wpList_load_row rfl 25 (.tmp 2) rfl q rfl 25 cs.toArray (0, 0) _ hd Tryd.underlying25 rfl hi25 ?_ | refine wpList_store_row rfl 25 (.tmp 2) (.tmp 59) rfl q cs.toArray rfl rfl 25 cs.toArray hd hi25 rfl ho ?_)
          rw [setRow_self wr _ _ _ _ hd]
          exact bodyPost_ret (results_cell_row Tryd.results13 _ _ q 25 _ _ _ rfl hd Tryd.underlying25 rfl hi25) rfl ⟨by rw [HC.out], HK.out⟩
end Go.Proofs.YtoeniimgbinflaaDoor
