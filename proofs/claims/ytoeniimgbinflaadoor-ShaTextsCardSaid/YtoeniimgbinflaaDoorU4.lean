/- A text is read, as the reference reads it. -/
import Derived.Test.YtoeniimgbinflaaDoorU3
namespace Go.Proofs.YtoeniimgbinflaaDoor
open Go.RowKit
set_option maxHeartbeats 4000000 in
set_option maxRecDepth 100000 in
theorem refread_any (w : World) (S : ByteArray) : Calls Tryd.prog 16 #[.string S] w (RdPost S.data.toList w) := by
  obtain ⟨q, hq⟩ : ∃ q, w.heap.size = q := ⟨_, rfl⟩
  have HQ := Lib.hid hq
  obtain ⟨l, hl⟩ : ∃ l, S.data.toList = l := ⟨_, rfl⟩
  have HLL := Lib.hid hl
  have HSZ : Hid (S.size = l.length) := Lib.hid (by rw [← hl]; exact Array.length_toList.symm)
  rw [hl]
  clear hl
  obtain ⟨zs, hzs⟩ : ∃ zs, bv (List.replicate 32 0) = zs := ⟨_, rfl⟩
  have HZS := Lib.hid hzs
  have ho : zs.toArray.all (·.oneCell') = true := by rw [← hzs]; exact zeros_one
  have hi25 : (Tryd.prog.info? 25).map (·.size) = some zs.toArray.size := by rw [← hzs]; kernel_rfl
  clear hzs
  go_enter Tryd.func16, Tryd.ntmps16
  go_upto_region 2 with fail
  rw [show ((Value.int IntKind.u8 0 :: Value.int IntKind.u8 0 :: Value.int IntKind.u8 0 :: Value.int IntKind.u8 0 :: Value.int IntKind.u8 0 :: Value.int IntKind.u8 0 :: Value.int IntKind.u8 0 :: Value.int IntKind.u8 0 :: Value.int IntKind.u8 0 :: Value.int IntKind.u8 0 :: Value.int IntKind.u8 0 :: Value.int IntKind.u8 0 :: Value.int IntKind.u8 0 :: Value.int IntKind.u8 0 :: Value.int IntKind.u8 0 :: Value.int IntKind.u8 0 :: Value.int IntKind.u8 0 :: Value.int IntKind.u8 0 :: Value.int IntKind.u8 0 :: Value.int IntKind.u8 0 :: Value.int IntKind.u8 0 :: Value.int IntKind.u8 0 :: Value.int IntKind.u8 0 :: Value.int IntKind.u8 0 :: Value.int IntKind.u8 0 :: Value.int IntKind.u8 0 :: Value.int IntKind.u8 0 :: Value.int IntKind.u8 0 :: Value.int IntKind.u8 0 :: Value.int IntKind.u8 0 :: Value.int IntKind.u8 0 :: Value.int IntKind.u8 0 :: [] : List Value).toArray) = zs.toArray by rw [← HZS.out]; rfl]
  obtain ⟨X, hX⟩ : ∃ X, (w.alloc (.cells zs.toArray 25)).alloc (.cells zs.toArray 25) = X := ⟨_, rfl⟩
  have HX : Hid (Keep (fun _ => False) w X) := by rw [← hX]; exact (Keep.alloc _ _ _).allocR _
  have hb : X.heap[q]? = some (.cells zs.toArray 25 (0, 0)) := by rw [← hX, ← hq]; exact heap_alloc2_old w _ _
  have hb1 : X.heap[q + 1]? = some (.cells zs.toArray 25 (0, 0)) := by rw [← hX, ← hq]; exact heap_alloc2_new w _ _
  rw [hX]
  clear hX hq
  by_cases h64 : S.size = 64
  · have h64' : ((S.size : Nat) : Int) = 64 := by omega
    have HB : Hid (X.heap[q + 1]? = some (.cells (bv (rcs l 0)).toArray 25 (0, 0))) := by rw [rcs_zero, HZS.out]; exact hb1
    have HB0 := Lib.hid hb
    clear hb hb1
    go_wp2_with fail
    clear h64'
    go_loopw [5] (fun t wr => ∃ i : Nat, i ≤ 64 ∧ t = .int .i64 i ∧ Keep (fun _ => False) w wr ∧ wr.heap[q]? = some (.cells zs.toArray 25 (0, 0)) ∧ wr.heap[q + 1]? = some (.cells (bv (rcs l i)).toArray 25 (0, 0)) ∧ ∀ k, k < i → (dv (l.getD k 0)).isSome) (fun t _ => 64 - (intOf t).toNat)
    case atStart => exact ⟨0, by omega, rfl, HX.out, HB0.out, HB.out, fun k hk => absurd hk (Nat.not_lt_zero _)⟩
    case round =>
      obtain ⟨i, hi, rfl, hk, h0, hd, hv⟩ := hrel
      have H0 := Lib.hid h0
      have HK := Lib.hid hk
      have HD := Lib.hid hd
      have HV := Lib.hid hv
      clear hk hd hv h0
      by_cases hlt : i < 64
      · have hlt' : (i : Int) < 64 := by omega
        have HI := fun W => run_index_byte W S i (by omega)
        rw [HLL.out] at HI
        have A23 := Lib.hid (fun W => digit_any (l.getD i 0) W)
        obtain ⟨c, hc⟩ : ∃ c, l.getD i 0 = c := ⟨_, rfl⟩
        rw [hc] at HI A23
        cases hdv : dv c with
        | none =>
          have HBAD : Hid (¬ Hexes l) := fun h => by have := h.2 i hlt; rw [hc, hdv] at this; cases this
          have A : Hid (∀ W, Calls Tryd.prog 23 #[.int .u8 (c.toNat : Int)] W fun e w' => e = .returned (.int .i64 (-1)) ∧ w' = W) := fun W => by have := A23.out W; unfold dg at this; rw [hdv] at this; exact this
          have hwz := H0.out
          have hfin := setRow_heap wr q _ zs.toArray 25 (0, 0) hwz
          have HFIN := Lib.hid hfin
          have HKF : Hid (Keep (fun _ => False) w (wr.setRow q zs.toArray)) := HK.out.rowNew (by rw [HQ.out]; exact Nat.le_refl _) _
          clear A23 hc hdv hfin
          go_wp2_with (first | (go_at_call 23; with_reducible refine (A.out _).mono ?_; rintro e W1 ⟨rfl, rfl⟩) | refine wpList_store_row rfl 25 (.tmp 2) (.tmp 19) rfl q zs.toArray rfl (by rw [← HZS.out]; rfl) 25 _ hwz hi25 rfl ho ?_)
          exact bodyPost_ret (results_ct Tryd.results16 _ _ q 25 _ _ _ (.int .i64 40) rfl rfl HFIN.out Tryd.underlying25 rfl hi25) rfl ⟨List.replicate 32 0, 40, by rw [HZS.out], .inr ⟨HBAD.out, rfl, rfl⟩, HKF.out⟩
        | some v =>
          have hv16 := dv_lt hdv
          have A : Hid (∀ W, Calls Tryd.prog 23 #[.int .u8 (c.toNat : Int)] W fun e w' => e = .returned (.int .i64 (v : Int)) ∧ Keep (fun _ => False) W w') := fun W => (by have := A23.out W; unfold dg at this; rw [hdv] at this; exact this : Calls Tryd.prog 23 #[.int .u8 (c.toNat : Int)] W fun e w' => e = .returned (.int .i64 (v : Int)) ∧ w' = W).mono fun _ _ ⟨a, b⟩ => ⟨a, by subst b; exact Keep.refl _ _⟩
          have hnib : nib l i = v := by unfold nib; rw [hc, hdv]; rfl
          obtain ⟨_, hst⟩ := rb_step l i
          rw [hnib] at hst
          have HSET := Lib.hid (rcs_set l i hlt)
          have HVN : Hid (∀ k, k < i + 1 → (dv (l.getD k 0)).isSome) := fun k hk => by
            by_cases hki : k = i
            · rw [hki, hc, hdv]; rfl
            · exact HV.out k (by omega)
          obtain ⟨j, hj⟩ : ∃ j, i / 2 = j := ⟨_, rfl⟩
          rw [hj] at hst HSET
          have ce : wr.cell? ⟨q + 1, j, none⟩ = some (.int .u8 ((rb l i j).toNat : Int)) := (cell_of HD.out j).trans (by rw [List.getElem?_toArray]; unfold bv; rw [List.getElem?_map, rcs_at l i j (by omega)]; rfl)
          have fz : wr.frozen? ⟨q + 1, j, none⟩ = false := free_of HD.out j
          have j1 : (i : Int).tdiv 2 = j := by rw [Int.tdiv_eq_ediv_of_nonneg (by omega)]; omega
          have j2 : (j : Int) < 32 := by omega
          generalize rb l (i + 1) j = bn at *
          generalize rb l i j = bo at *
          obtain ⟨x16, hx16⟩ : ∃ x, bo.toNat * 16 % 256 = x := ⟨_, rfl⟩
          rw [hx16] at hst
          have hbn := UInt8.toNat_lt bn
          have j3 : IntKind.i64.wrap (j : Int) = j := by rw [i64_in _ (by omega)]
          have o1 : IntKind.u8.wrap (16 * (bo.toNat : Int)) = (x16 : Int) := by rw [IntKind.wrap_u8']; omega
          have o2 : IntKind.u8.wrap (v : Int) = (v : Int) := by rw [IntKind.wrap_u8']; omega
          have o3 : IntKind.u8.wrap ((x16 : Int) + (v : Int)) = (bn.toNat : Int) := by rw [IntKind.wrap_u8']; omega
          have hql : q + 1 < wr.heap.size := lt_of_block HD.out
          have hRl := (Later.rules wr).1
          have hRf := (Later.rules wr).2
          have v1 : ¬ (v : Int) < 0 := by omega
          have A' : Hid (∀ W, Calls Tryd.prog 23 #[.int .u8 (c.toNat : Int)] W fun e w' => e = .returned (.int .i64 (v : Int)) ∧ w' = W) := fun W => by have := A23.out W; unfold dg at this; rw [hdv] at this; exact this
          clear A23 hc hdv hnib hst hj hx16 hv16
          go_wp2_with (go_at_call 23; with_reducible refine (A'.out _).mono ?_; rintro e W1 ⟨rfl, rfl⟩)
          refine wp_region_later_tail 14 (by kernel_rfl) (by kernel_rfl) ?_
          simp only [List.take_succ_cons, List.take_zero, List.drop_succ_cons, List.drop_zero]
          repeat (refine wpQuiet_step (fun K hK => ?_); go_simp; first | (refine hK _ ?_; clear hK K) | (apply Exists.intro; refine ⟨fun g => ?_, hK _ ?_⟩; (go_at_call 23; with_reducible exact Later.call (A.out _)); clear hK K))
          refine wpQuiet_nil ?_
          intro Z hZ0
          obtain ⟨G0, hZ⟩ := hZ0
          have HKZ : Hid (Keep (fun _ => False) w Z) := hZ ▸ HK.out.trans G0.keep
          have HZ0 : Hid (Z.heap[q]? = some (.cells zs.toArray 25 (0, 0))) := hZ ▸ G0.keep.heap H0.out (fun h => h)
          have HZ1 : Hid (Z.heap[q + 1]? = some (.cells (bv (rcs l i)).toArray 25 (0, 0))) := hZ ▸ G0.keep.heap HD.out (fun h => h)
          have ce' : Z.cell? ⟨q + 1, j, none⟩ = some (.int .u8 (bo.toNat : Int)) := by
            rw [← ce]; rw [hZ]; exact G0.keep.rules.1 (q + 1) j hql
          have fz' : Z.frozen? ⟨q + 1, j, none⟩ = false := free_of HZ1.out j
          clear hZ G0 hRl hRf ce fz A A' HI
          go_wp2_with fail
          exact ⟨⟨i + 1, by omega, by go_num, HKZ.out.setNew (by rw [HQ.out]; exact Nat.le_succ _) _, Keep.heap (Keep.setCell (S := fun x => x = q + 1) Z _ rfl) HZ0.out (by omega), by rw [heap_setCell_at HZ1.out, List.setIfInBounds_toArray, HSET.out], HVN.out⟩, by simp [intOf]; omega⟩
      · have hge : ¬ (i : Int) < 64 := by omega
        have HOK : Hid (Hexes l) := ⟨by rw [← HSZ.out]; exact h64, fun k hk => HV.out k (by omega)⟩
        have hd := HD.out
        have h0 := H0.out
        rw [show i = 64 by omega] at hd
        obtain ⟨cs, hcs⟩ : ∃ cs, bv (rcs l 64) = cs := ⟨_, rfl⟩
        have ho2 : cs.toArray.all (·.oneCell') = true := by rw [← hcs]; exact all_oneCell_toArray (bv_one _)
        have hl2 : cs.length = 32 := by rw [← hcs, bv_length]; exact rcs_length l 64
        rw [hcs] at hd
        have HC := Lib.hid hcs
        have hi26 : (Tryd.prog.info? 25).map (·.size) = some cs.toArray.size := by rw [List.size_toArray, hl2]; kernel_rfl
        have hold : zs.toArray.size = cs.toArray.size := by rw [← HZS.out, List.size_toArray, List.size_toArray, hl2]; rfl
        clear hcs HD hlt hi hl2 ho hi25
        go_wp2_with (first | refine wpList_load_row rfl 25 (.tmp 4) rfl (q + 1) rfl 25 cs.toArray (0, 0) _ hd Tryd.underlying25 rfl hi26 ?_ | refine wpList_store_row rfl 25 (.tmp 2) (.tmp 34) rfl q cs.toArray rfl rfl 25 zs.toArray h0 hi26 hold ho2 ?_)
        have hfin := setRow_heap wr q _ cs.toArray 25 (0, 0) h0
        exact bodyPost_ret (results_ct Tryd.results16 _ _ q 25 _ _ _ (.int .i64 0) rfl rfl hfin Tryd.underlying25 rfl hi26) rfl ⟨rcs l 64, 0, by rw [HC.out], .inl ⟨HOK.out, rfl, rfl⟩, HK.out.rowNew (by rw [HQ.out]; exact Nat.le_refl _) _⟩
  · have h64' : ¬ ((S.size : Nat) : Int) = 64 := by omega
    have HBAD : Hid (¬ Hexes l) := fun h => h64 (by rw [HSZ.out]; exact h.1)
    go_wp2_with (first | refine wpList_load_row rfl 25 (.tmp 4) rfl (q + 1) rfl 25 zs.toArray (0, 0) _ hb1 Tryd.underlying25 rfl hi25 ?_ | refine wpList_store_row rfl 25 (.tmp 2) (.tmp 9) rfl q zs.toArray rfl rfl 25 zs.toArray hb hi25 rfl ho ?_)
    rw [setRow_self X _ _ _ _ hb]
    exact bodyPost_ret (results_ct Tryd.results16 _ _ q 25 _ _ _ (.int .i64 40) rfl rfl hb Tryd.underlying25 rfl hi25) rfl ⟨List.replicate 32 0, 40, by rw [HZS.out], .inr ⟨HBAD.out, rfl, rfl⟩, HX.out⟩
end Go.Proofs.YtoeniimgbinflaaDoor
