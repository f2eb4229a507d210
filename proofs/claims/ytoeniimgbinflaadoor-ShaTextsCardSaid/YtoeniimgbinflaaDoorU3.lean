/- A text is read. -/
import Derived.Test.YtoeniimgbinflaaDoorU2
import Derived.Laws.ResultCell
namespace Go.Proofs.YtoeniimgbinflaaDoor
open Go.RowKit
theorem results_ct {P : Program} {fn : Func} {p u : Tmp} {ty : TypeId} (h : fn.results = #[.cell p ty, .tmp u]) (tmps : Array Value) (w : World) (g : Nat) (t : TypeId) (cs : Array Value) (fr : Nat × Nat) (d : TypeDesc) (v : Value)
    (hp : tmps.getD p undef = .pointer (some ⟨g, 0, none⟩)) (hv : tmps.getD u undef = v) (hg : w.heap[g]? = some (.cells cs t fr))
    (hu : P.underlying ty = some d) (hd : (match d with | .struct _ | .array _ _ => true | _ => false) = true) (hi : (P.info? ty).map (·.size) = some cs.size) :
    (results fn tmps).run P w = .ok (.tuple #[.agg cs, v]) w := by
  rw [results_cell_tmp h, hp, hv]
  simp only [asAddr, Sem.run_pure, Result.andThen_ok, run_loadVar_row w g t ty cs fr d hg hu hd hi]
theorem run_index_byte (w : World) (S : ByteArray) (i : Nat) (h : i < S.size) : (Instr.index 9 (.string S) (.int .i64 (i : Int))).run Tryd.prog w = .ok (.int .u8 ((S.data.toList.getD i 0).toNat : Int)) w := by
  have hs : S[i]? = some (S.data.toList.getD i 0) := by
    have h' : i < S.data.size := h
    rw [getElem?_pos S i h, List.getD_eq_getElem?_getD, List.getElem?_eq_getElem (by simpa using h')]
    simp [ByteArray.getElem_eq_getElem_data]
  have h0 : (0 : Int) ≤ (i : Int) := by omega
  unfold Instr.index
  simp only [asIntOf, Sem.run_bind, Sem.run_pure, Result.andThen_ok, run_underlying Tryd.underlying9, Int.toNat_natCast, if_pos h0, hs]
/-- What reading a text does. -/
def RdPost (l : List UInt8) (w : World) (e : Ending) (w' : World) : Prop := ∃ (d : List UInt8) (f : Int), e = .returned (.tuple #[.agg (bv d).toArray, .int .i64 f]) ∧ ((Hexes l ∧ d = rcs l 64 ∧ f = 0) ∨ (¬ Hexes l ∧ d = List.replicate 32 0 ∧ f = 40)) ∧ Keep (fun _ => False) w w'
theorem zeros_one : (bv (List.replicate 32 0)).toArray.all (·.oneCell') = true := all_oneCell_toArray (bv_one _)
set_option maxHeartbeats 4000000 in
set_option maxRecDepth 100000 in
theorem read_any (w : World) (S : ByteArray) : Calls Tryd.prog 15 #[.string S] w (RdPost S.data.toList w) := by
  obtain ⟨q, hq⟩ : ∃ q, w.heap.size = q := ⟨_, rfl⟩
  have HQ := Lib.hid hq
  obtain ⟨l, hl⟩ : ∃ l, S.data.toList = l := ⟨_, rfl⟩
  have HLL := Lib.hid hl
  have HSZ : Hid (S.size = l.length) := Lib.hid (by rw [← hl]; exact Array.length_toList.symm)
  rw [hl]
  clear hl
  obtain ⟨zs, hzs⟩ : ∃ zs, bv (List.replicate 32 0) = zs := ⟨_, rfl⟩
  have HZS := Lib.hid hzs
  have ho : zs.toArray.all (·.oneCell') = true := by rw [← hzs]; exact zeros_one
  have hi25 : (Tryd.prog.info? 25).map (·.size) = some zs.toArray.size := by rw [← hzs]; kernel_rfl
  clear hzs
  go_enter Tryd.func15, Tryd.ntmps15
  go_upto_region 1 with fail
  rw [show ((Value.int IntKind.u8 0 :: Value.int IntKind.u8 0 :: Value.int IntKind.u8 0 :: Value.int IntKind.u8 0 :: Value.int IntKind.u8 0 :: Value.int IntKind.u8 0 :: Value.int IntKind.u8 0 :: Value.int IntKind.u8 0 :: Value.int IntKind.u8 0 :: Value.int IntKind.u8 0 :: Value.int IntKind.u8 0 :: Value.int IntKind.u8 0 :: Value.int IntKind.u8 0 :: Value.int IntKind.u8 0 :: Value.int IntKind.u8 0 :: Value.int IntKind.u8 0 :: Value.int IntKind.u8 0 :: Value.int IntKind.u8 0 :: Value.int IntKind.u8 0 :: Value.int IntKind.u8 0 :: Value.int IntKind.u8 0 :: Value.int IntKind.u8 0 :: Value.int IntKind.u8 0 :: Value.int IntKind.u8 0 :: Value.int IntKind.u8 0 :: Value.int IntKind.u8 0 :: Value.int IntKind.u8 0 :: Value.int IntKind.u8 0 :: Value.int IntKind.u8 0 :: Value.int IntKind.u8 0 :: Value.int IntKind.u8 0 :: Value.int IntKind.u8 0 :: [] : List Value).toArray) = zs.toArray by rw [← HZS.out]; rfl]
  obtain ⟨X, hX⟩ : ∃ X, w.alloc (.cells zs.toArray 25) = X := ⟨_, rfl⟩
  have HX : Hid (Keep (fun _ => False) w X) := by rw [← hX]; exact Keep.alloc _ _ _
  have hb : X.heap[q]? = some (.cells zs.toArray 25 (0, 0)) := by rw [← hX, ← hq]; exact heap_alloc_new _ _
  rw [hX]
  clear hX hq
  by_cases h64 : S.size = 64
  · have h64' : ((S.size : Nat) : Int) = 64 := by omega
    have HB : Hid (X.heap[q]? = some (.cells (bv (rcs l 0)).toArray 25 (0, 0))) := by rw [rcs_zero, HZS.out]; exact hb
    clear hb
    go_wp2_with fail
    clear h64'
    go_loopw [11] (fun t wr => ∃ i : Nat, i ≤ 64 ∧ t = .int .i64 i ∧ Keep (fun _ => False) w wr ∧ wr.heap[q]? = some (.cells (bv (rcs l i)).toArray 25 (0, 0)) ∧ ∀ k, k < i → (dv (l.getD k 0)).isSome) (fun t _ => 64 - (intOf t).toNat)
    case atStart => exact ⟨0, by omega, rfl, HX.out, HB.out, fun k hk => absurd hk (Nat.not_lt_zero _)⟩
    case round =>
      obtain ⟨i, hi, rfl, hk, hd, hv⟩ := hrel
      have HK := Lib.hid hk
      have HD := Lib.hid hd
      have HV := Lib.hid hv
      clear hk hd hv
      by_cases hlt : i < 64
      · have hlt' : (i : Int) < 64 := by omega
        have HI := fun W => run_index_byte W S i (by omega)
        rw [HLL.out] at HI
        have A22 := Lib.hid (fun W => value_any (l.getD i 0) W)
        obtain ⟨c, hc⟩ : ∃ c, l.getD i 0 = c := ⟨_, rfl⟩
        rw [hc] at HI A22
        cases hdv : dv c with
        | none =>
          rw [hdv] at A22
          have HBAD : Hid (¬ Hexes l) := fun h => by have := h.2 i hlt; rw [hc, hdv] at this; cases this
          have A : Hid (∀ W, Calls Tryd.prog 22 #[.int .u8 (c.toNat : Int)] W fun e w' => e = .returned (.tuple #[.int .u8 0, .bool false]) ∧ w' = W) := fun W => A22.out W
          have hwz := HD.out
          have hold : (bv (rcs l i)).toArray.size = zs.toArray.size := by rw [← HZS.out, List.size_toArray, List.size_toArray, bv_length, bv_length, rcs_length]; rfl
          have hfin := setRow_heap wr q _ zs.toArray 25 (0, 0) hwz
          have HFIN := Lib.hid hfin
          have HKF : Hid (Keep (fun _ => False) w (wr.setRow q zs.toArray)) := HK.out.rowNew (by rw [HQ.out]; exact Nat.le_refl _) _
          clear A22 hc hdv hfin
          go_wp2_with (first | (go_at_call 22; with_reducible refine (A.out _).mono ?_; rintro e W1 ⟨rfl, rfl⟩) | refine wpList_store_row rfl 25 (.tmp 2) (.tmp 23) rfl q zs.toArray rfl (by rw [← HZS.out]; rfl) 25 _ hwz hi25 hold ho ?_)
          exact bodyPost_ret (results_ct Tryd.results15 _ _ q 25 _ _ _ (.int .i64 40) rfl rfl HFIN.out Tryd.underlying25 rfl hi25) rfl ⟨List.replicate 32 0, 40, by rw [HZS.out], .inr ⟨HBAD.out, rfl, rfl⟩, HKF.out⟩
        | some v =>
          rw [hdv] at A22
          have hv16 := dv_lt hdv
          have A : Hid (∀ W, Calls Tryd.prog 22 #[.int .u8 (c.toNat : Int)] W fun e w' => e = .returned (.tuple #[.int .u8 (v : Int), .bool true]) ∧ w' = W) := fun W => A22.out W
          have hnib : nib l i = v := by unfold nib; rw [hc, hdv]; rfl
          obtain ⟨hst, _⟩ := rb_step l i
          rw [hnib] at hst
          have HSET := Lib.hid (rcs_set l i hlt)
          have HVN : Hid (∀ k, k < i + 1 → (dv (l.getD k 0)).isSome) := fun k hk => by
            by_cases hki : k = i
            · rw [hki, hc, hdv]; rfl
            · exact HV.out k (by omega)
          obtain ⟨j, hj⟩ : ∃ j, i / 2 = j := ⟨_, rfl⟩
          rw [hj] at hst HSET
          have ce : wr.cell? ⟨q, j, none⟩ = some (.int .u8 ((rb l i j).toNat : Int)) := (cell_of HD.out j).trans (by rw [List.getElem?_toArray]; unfold bv; rw [List.getElem?_map, rcs_at l i j (by omega)]; rfl)
          have fz : wr.frozen? ⟨q, j, none⟩ = false := free_of HD.out j
          have j1 : (i : Int).tdiv 2 = j := by rw [Int.tdiv_eq_ediv_of_nonneg (by omega)]; omega
          have j2 : (j : Int) < 32 := by omega
          generalize rb l (i + 1) j = bn at *
          generalize rb l i j = bo at *
          obtain ⟨x16, hx16⟩ : ∃ x, bo.toNat * 16 % 256 = x := ⟨_, rfl⟩
          rw [hx16] at hst
          have o1 : (bo.toNat : Int) * 16 % 256 = (x16 : Int) := by omega
          have o2 : bits .or .u8 (x16 : Int) (v : Int) = (bn.toNat : Int) := by rw [u8_or_nat x16 v (by omega) (by omega), hst]
          clear A22 hc hdv hnib hst hj hx16 hv16
          go_wp2_with (go_at_call 22; with_reducible refine (A.out _).mono ?_; rintro e W1 ⟨rfl, rfl⟩)
          exact ⟨⟨i + 1, by omega, by go_num, HK.out.setNew (by rw [HQ.out]; exact Nat.le_refl _) _, by rw [heap_setCell_at HD.out, List.setIfInBounds_toArray, HSET.out], HVN.out⟩, by simp [intOf]; omega⟩
      · have hge : ¬ (i : Int) < 64 := by omega
        have HOK : Hid (Hexes l) := ⟨by rw [← HSZ.out]; exact h64, fun k hk => HV.out k (by omega)⟩
        have hd := HD.out
        rw [show i = 64 by omega] at hd
        obtain ⟨cs, hcs⟩ : ∃ cs, bv (rcs l 64) = cs := ⟨_, rfl⟩
        have ho2 : cs.toArray.all (·.oneCell') = true := by rw [← hcs]; exact all_oneCell_toArray (bv_one _)
        have hl2 : cs.length = 32 := by rw [← hcs, bv_length]; exact rcs_length l 64
        rw [hcs] at hd
        have HC := Lib.hid hcs
        have hi26 : (Tryd.prog.info? 25).map (·.size) = some cs.toArray.size := by rw [List.size_toArray, hl2]; kernel_rfl
        clear hcs HD hlt hi hl2 ho hi25
        go_wp2_with (first | refine wpList_load_row rfl 25 (.tmp 2) rfl q rfl 25 cs.toArray (0, 0) _ hd Tryd.underlying25 rfl hi26 ?_ | refine wpList_store_row rfl 25 (.tmp 2) (.tmp 35) rfl q cs.toArray rfl rfl 25 cs.toArray hd hi26 rfl ho2 ?_)
        rw [setRow_self wr _ _ _ _ hd]
        exact bodyPost_ret (results_ct Tryd.results15 _ _ q 25 _ _ _ (.int .i64 0) rfl rfl hd Tryd.underlying25 rfl hi26) rfl ⟨rcs l 64, 0, by rw [HC.out], .inl ⟨HOK.out, rfl, rfl⟩, HK.out⟩
  · have h64' : ¬ ((S.size : Nat) : Int) = 64 := by omega
    have HBAD : Hid (¬ Hexes l) := fun h => h64 (by rw [HSZ.out]; exact h.1)
    go_wp2_with (first | refine wpList_load_row rfl 25 (.tmp 2) rfl q rfl 25 zs.toArray (0, 0) _ hb Tryd.underlying25 rfl hi25 ?_ | refine wpList_store_row rfl 25 (.tmp 2) (.tmp 10) rfl q zs.toArray rfl rfl 25 zs.toArray hb hi25 rfl ho ?_)
    rw [setRow_self X _ _ _ _ hb]
    exact bodyPost_ret (results_ct Tryd.results15 _ _ q 25 _ _ _ (.int .i64 40) rfl rfl hb Tryd.underlying25 rfl hi25) rfl ⟨List.replicate 32 0, 40, by rw [HZS.out], .inr ⟨HBAD.out, rfl, rfl⟩, HX.out⟩
end Go.Proofs.YtoeniimgbinflaaDoor
