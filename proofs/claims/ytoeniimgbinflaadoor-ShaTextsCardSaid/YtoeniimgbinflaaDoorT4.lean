/- The reference: the digest of bytes. -/
import Derived.Test.YtoeniimgbinflaaDoorT3
namespace Go.Proofs.YtoeniimgbinflaaDoor
open Go.RowKit
theorem slice22lh (g o N cap i : Nat) (hi : i + 64 ≤ N) (hc : N ≤ cap) (W : World) : (Instr.sliceAt 22 (.slice (some ⟨g, o, none⟩) N cap) (some (.int .i64 (i : Int))) (some (.int .i64 ((i + 64 : Nat) : Int))) none).run Tryd.prog W = .ok (.slice (some ⟨g, o + i, none⟩) 64 (cap - i)) W := by
  rw [run_sliceAt_slice W 22 _ _ _ _ under22, run_slice_lh W 22 _ N cap under22 .i64 .i64 i ((i + 64 : Nat) : Int) (by omega) (by omega) (by omega), size22]
  simp only [Result.andThen_ok, sliced, Int.toNat_natCast, Nat.mul_one, Option.map_some, add_none]
  rw [if_neg (by omega), show i + 64 - i = 64 by omega]
theorem Bl.part {w : World} {g o : Nat} {xs : List UInt8} (h : Bl w (some ⟨g, o, none⟩) xs) (i n : Nat) : Bl w (some ⟨g, o + i, none⟩) ((xs.drop i).take n) := fun j x hx => by
  rw [List.getElem?_take] at hx
  split at hx
  · rw [List.getElem?_drop] at hx
    obtain ⟨b', o', e, hc⟩ := h (i + j) x hx
    simp only [Option.some.injEq, Addr.mk.injEq] at e
    obtain ⟨rfl, rfl, _⟩ := e
    exact ⟨g, o + i, rfl, by rw [Nat.add_assoc]; exact hc⟩
  · cases hx
set_option maxHeartbeats 4000000 in
set_option maxRecDepth 100000 in
theorem refsum_any (w : World) (a : Option Addr) (cap : Nat) (xs : List UInt8) (hb : Bl w a xs) (hn : xs.length ≤ 100000000) : Calls Tryd.prog 9 #[.slice a xs.length cap] w fun e w' => e = .returned (.agg (bv (dig xs)).toArray) ∧ Keep (fun _ => False) w w' := by
  obtain ⟨q, hq⟩ : ∃ q, w.heap.size = q := ⟨_, rfl⟩
  have HQ := Lib.hid hq
  have hi38 : ∀ r : H8, (Tryd.prog.info? 38).map (·.size) = some r.cs.toArray.size := fun r => by rw [List.size_toArray, show r.cs.length = 8 from rfl]; kernel_rfl
  have HI := Lib.hid hi38
  obtain ⟨n, hnl⟩ : ∃ n, xs.length = n := ⟨_, rfl⟩
  have HN := Lib.hid hnl
  have HBL := Lib.hid hb
  rw [hnl]
  have HNN : Hid (n ≤ 100000000) := by rw [← hnl]; exact hn
  clear hb hnl hn hi38
  have HG2 : Hid (∀ V : World, V.heap.size = q + 1 → (V.alloc (.cells (List.replicate 8 (Value.int .u32 0)).toArray 38)).heap[q + 1]? = some (.cells (List.replicate 8 (Value.int .u32 0)).toArray 38 (0, 0))) := fun V h => by rw [← h]; exact heap_alloc_new _ _
  have hi := HI.out init8
  have hone := cs_one init8
  go_enter Tryd.func9, Tryd.ntmps9
  go_upto_region 2 with (refine wpList_store_row rfl 38 (.tmp 3) (.tmp 8) rfl (q + 1) init8.cs.toArray rfl rfl 38 _ (HG2.out _ (by simp [HQ.out])) hi rfl hone ?_)
  generalize hX : World.setRow _ (q + 1) _ = X
  have HX : Hid (Keep (fun _ => False) w X) := by rw [← hX]; exact ((Keep.alloc _ _ _).allocR _).rowNew (by rw [HQ.out]; omega) _
  have HX0 : Hid (X.heap[q]? = some (.cells (bv (List.replicate 32 0)).toArray 25 (0, 0))) := by
    rw [← hX, ← HQ.out]
    exact (setRow_other _ _ _ _ (by omega)).trans (heap_alloc2_old w _ _)
  have HX1 : Hid (X.heap[q + 1]? = some (.cells init8.cs.toArray 38 (0, 0))) := by
    rw [← hX]; exact setRow_heap _ _ _ _ 38 (0, 0) (HG2.out _ (by simp [HQ.out]))
  obtain ⟨N, hN⟩ : ∃ N, (padded xs).length = N := ⟨_, rfl⟩
  have HPL := Lib.hid hN
  have HNM : Hid (N % 64 = 0 ∧ 0 < N ∧ N ≤ 200000000) := by
    refine ⟨by rw [← hN]; exact padded_length xs, ?_, ?_⟩
    · rw [← hN]; simp [padded]; omega
    · rw [← hN]; have := HN.out; have := HNN.out; simp [padded, padz, len8]; omega
  have HMSG : Hid (Calls Tryd.prog 18 #[.slice a n cap] X fun e w' => ∃ g cap', e = .returned (.slice (some ⟨g, 0, none⟩) N cap') ∧ q + 1 < g ∧ N ≤ cap' ∧ Bl w' (some ⟨g, 0, none⟩) (padded xs) ∧ Keep (fun _ => False) X w') := by
    rw [← HN.out]
    refine (message_any X a cap xs (HBL.out.keep0 HX.out) (by rw [HN.out]; exact HNN.out)).mono fun e w' ⟨a', cap', he, ho, hk⟩ => ?_
    rw [hN] at he ho
    obtain ⟨g, cap2, e2, hbg, hnc, _⟩ := own_shape ho HNM.out.2.1
    simp only [Value.slice.injEq] at e2
    obtain ⟨rfl, _, rfl⟩ := e2
    exact ⟨g, cap', he, Nat.lt_of_lt_of_le (lt_of_block HX1.out) hbg, hnc, Bl.ofOwn ho, hk⟩
  clear hX HG2 hi hone hq hN
  go_upto_region 3 with (go_at_call 18; with_reducible refine HMSG.out.mono ?_; rintro e Y ⟨g, cap', rfl, hgq, hnc, hbl, hky⟩)
  have HBP := Lib.hid hbl
  have HY : Hid (Keep (fun _ => False) w Y) := HX.out.trans hky
  have HY0 := Lib.hid (hky.heap HX0.out (fun h => h))
  have HY1 := Lib.hid (hky.heap HX1.out (fun h => h))
  clear hbl hky HX HX0 HX1 HMSG
  go_wp2_with fail
  go_loopw [5] (fun t5 wr => ∃ k : Nat, 64 * k ≤ N ∧ t5 = .int .i64 ((64 * k : Nat) : Int) ∧ Keep (fun i => i = q + 1) Y wr ∧ wr.heap[q + 1]? = some (.cells (fold (padded xs) k).cs.toArray 38 (0, 0))) (fun t5 _ => N - (intOf t5).toNat)
  case atStart => exact ⟨0, Nat.zero_le _, rfl, Keep.refl _ _, HY1.out⟩
  case round =>
    obtain ⟨k, hk, rfl, hkk, hc⟩ := hrel
    have HK := Lib.hid hkk
    have HC := Lib.hid hc
    clear hkk hc
    obtain ⟨i, hi⟩ : ∃ i, 64 * k = i := ⟨_, rfl⟩
    have HIK := Lib.hid hi
    rw [hi] at hk ⊢
    by_cases hlt : i < N
    · have hlt' : (i : Int) < N := by omega
      have h64 : i + 64 ≤ N := by have := HNM.out; omega
      have hNb : (N : Int) ≤ 200000000 := by have := HNM.out; omega
      obtain ⟨s, hs⟩ : ∃ s, fold (padded xs) k = s := ⟨_, rfl⟩
      obtain ⟨b, hb⟩ : ∃ b, ((padded xs).drop i).take 64 = b := ⟨_, rfl⟩
      have HM : Hid (fold (padded xs) (k + 1) = mixed s b) := Lib.hid (by rw [fold, hs, HIK.out, hb])
      have HBB : Hid (b.length = 64) := Lib.hid (by rw [← hb, List.length_take, List.length_drop, HPL.out]; omega)
      rw [hs] at HC
      obtain ⟨i2, hi2⟩ : ∃ i2, i + 64 = i2 := ⟨_, rfl⟩
      have w1 : IntKind.i64.wrap ((i : Int) + 64) = (i2 : Int) := by rw [i64_in _ (by omega)]; omega
      have w2 : wrap64 ((i : Int) + 64) = (i2 : Int) := by unfold wrap64; omega
      have HSL := slice22lh g 0 N cap' i h64 hnc
      rw [Nat.zero_add, hi2] at HSL
      have hgl : ∀ G : Later wr, Keep (fun i => i = q + 1) Y G.world := fun G => HK.out.trans (G.keep.mono (fun _ h => h.elim))
      have HBX : Hid (∀ G : Later wr, Bl G.world (some ⟨g, i, none⟩) b) := fun G => by
        have h1 := HBP.out.keep (hgl G) (fun ad he => by obtain rfl := Option.some.inj he; show ¬ g = q + 1; omega)
        have h2 := Bl.part h1 i 64
        rw [Nat.zero_add, hb] at h2
        exact h2
      have HBLK : Hid (∀ G : Later wr, Calls Tryd.prog 19 #[.agg s.cs.toArray, .slice (some ⟨g, i, none⟩) 64 (cap' - i)] G.world fun e w' => e = .returned (.agg (mixed s b).cs.toArray) ∧ Keep (fun _ => False) G.world w') := fun G => block_any s G.world g i (cap' - i) b HBB.out (HBX.out G)
      have L38 : Hid (∀ G : Later wr, (Instr.loadAt 38 (.pointer (some ⟨q + 1, 0, none⟩))).run Tryd.prog G.world = .ok (.agg s.cs.toArray) G.world) := fun G => by
        have h1 := G.keep.heap HC.out (fun h => h)
        exact run_loadAt_mid G.world (q + 1) 0 38 s.cs _ (fun j v hv => by rw [Nat.zero_add, cell_of h1, List.getElem?_toArray, hv]) Tryd.underlying38 rfl (by rw [show s.cs.length = 8 from rfl]; kernel_rfl)
      have HLT : Hid (i + 64 = i2 ∧ i2 ≤ N) := ⟨hi2, by omega⟩
      clear hs hb hgl hi hi2 h64 hk
      go_wp2_with fail
      refine wp_region_later_tail 7 (by kernel_rfl) (by kernel_rfl) ?_
      simp only [List.take_succ_cons, List.take_zero, List.drop_succ_cons, List.drop_zero]
      repeat (first | refine wpQuiet_load rfl 38 (.tmp 3) rfl ⟨q + 1, 0, none⟩ (.agg s.cs.toArray) rfl (fun w hw => by obtain ⟨g, rfl⟩ := hw; exact L38.out g) ?_ | (refine wpQuiet_step (fun K hK => ?_); go_simp; first | (refine hK _ ?_; clear hK K) | (apply Exists.intro; refine ⟨fun g => ?_, hK _ ?_⟩; (go_at_call 19; with_reducible exact Later.call (HBLK.out g)); clear hK K)))
      refine wpQuiet_nil ?_
      intro Z hZ0
      obtain ⟨G0, hZ⟩ := hZ0
      have HKZ : Hid (Keep (fun i => i = q + 1) Y Z) := hZ ▸ HK.out.trans (G0.keep.mono (fun _ h => h.elim))
      have hbz : Z.heap[q + 1]? = some (.cells s.cs.toArray 38 (0, 0)) := hZ ▸ G0.keep.heap HC.out (fun h => h)
      obtain ⟨sm, hsm⟩ : ∃ sm, mixed s b = sm := ⟨_, rfl⟩
      rw [hsm] at HM
      have hi := HI.out sm
      have hone := cs_one sm
      have hold : s.cs.toArray.size = sm.cs.toArray.size := rfl
      have hfin := setRow_heap Z (q + 1) _ sm.cs.toArray 38 (0, 0) hbz
      have HFIN := Lib.hid hfin
      rw [hsm]
      clear hZ G0 hsm hfin L38 HBLK HBX HSL w1
      go_wp2_with (refine wpList_store_row rfl 38 (.tmp 3) (.tmp 23) rfl (q + 1) sm.cs.toArray rfl rfl 38 _ hbz hi hold hone ?_)
      refine ⟨⟨k + 1, ?_, ?_, HKZ.out.trans (Keep.row _), by rw [HM.out]; exact HFIN.out⟩, ?_⟩
      · have := HLT.out; have := HIK.out; omega
      · rw [show 64 * (k + 1) = i2 by have := HLT.out; have := HIK.out; omega]
        have := HLT.out.1
        congr 1
        omega
      · have := HLT.out
        simp only [intOf]
        omega
    · have he : k = N / 64 := by have := HIK.out; omega
      have hge : ¬ (i : Int) < N := by omega
      obtain ⟨s, hs⟩ : ∃ s, sums (padded xs) = s := ⟨_, rfl⟩
      have HSM : Hid (dcs s 32 = bv (dig xs)) := by rw [dcs_full, ← hs]; exact Lib.hid rfl
      have HCS : Hid (wr.heap[q + 1]? = some (.cells s.cs.toArray 38 (0, 0))) := by rw [← hs, sums, HPL.out, ← he]; exact HC.out
      have HKW : Hid (Keep (fun _ => False) w wr) := HY.out.step HK.out (fun i hi => .inr (by subst hi; rw [HQ.out]; omega))
      have HW0 : Hid (wr.heap[q]? = some (.cells (bv (List.replicate 32 0)).toArray 25 (0, 0))) := HK.out.heap HY0.out (by omega)
      clear hs he HC hlt hk HBP
      obtain ⟨q6, hq6⟩ : ∃ q6, wr.heap.size = q6 := ⟨_, rfl⟩
      have HQ6 := Lib.hid hq6
      have hl6 : q + 1 < q6 := by rw [← hq6]; exact lt_of_block HCS.out
      go_upto_region 8 with fail
      generalize hX : World.alloc wr _ = X6
      have HX6 : Hid (Keep (fun _ => False) wr X6) := by rw [← hX]; exact Keep.alloc _ _ _
      have HB6 : Hid (X6.heap[q6]? = some (.cells (dcs s 0).toArray 25 (0, 0))) := by rw [← hX, ← hq6, dcs_zero]; exact heap_alloc_new _ _
      clear hX hq6 hge
      go_wp2_with fail
      go_loopw [7] (fun t wr' => ∃ i : Nat, i ≤ 32 ∧ t = .int .i64 i ∧ Keep (fun _ => False) wr wr' ∧ wr'.heap[q6]? = some (.cells (dcs s i).toArray 25 (0, 0))) (fun t _ => 32 - (intOf t).toNat)
      case atStart => exact ⟨0, by omega, rfl, HX6.out, HB6.out⟩
      case round =>
        obtain ⟨i, hi, rfl, hk, hd⟩ := hrel
        have HK := Lib.hid hk
        have HD := Lib.hid hd
        have HS := Lib.hid (HK.out.heap HCS.out (fun h => h))
        clear hk hd
        by_cases hlt : i < 32
        · have hlt' : (i : Int) < 32 := by omega
          obtain ⟨j, hj⟩ : ∃ j, i / 4 = j := ⟨_, rfl⟩
          obtain ⟨r, hr⟩ : ∃ r, i % 4 = r := ⟨_, rfl⟩
          have ce := (cell_of HD.out i).trans (by rw [List.getElem?_toArray, dcs_at s i hlt])
          have fz := free_of HD.out i
          have cw := (cell_of HS.out j).trans (by rw [List.getElem?_toArray, cs_at s j (by omega)])
          unfold W32.v at cw
          have j1 : (i : Int).tdiv 4 = j := by rw [Int.tdiv_eq_ediv_of_nonneg (by omega)]; omega
          have j2 : (i : Int).tmod 4 = r := by rw [Int.tmod_eq_emod_of_nonneg (by omega)]; omega
          have j3 : (j : Int) < 8 := by omega
          have j4 : (r : Int) < 4 := by omega
          have hv := db_val s i j r hj hr
          rw [Nat.mul_comm] at hv
          have HST := Lib.hid (dcs_set s i hlt)
          clear hj hr
          generalize db s i = bt at *
          generalize s.get j = wj at *
          go_wp2_with fail
          exact ⟨⟨i + 1, by omega, by go_num, HK.out.setNew (by rw [HQ6.out]; exact Nat.le_refl _) _, by rw [heap_setCell_at HD.out, List.setIfInBounds_toArray, HST.out]⟩, by simp [intOf]; omega⟩
        · have hge : ¬ (i : Int) < 32 := by omega
          have hd := HD.out
          rw [show i = 32 by omega, HSM.out] at hd
          obtain ⟨cs, hcs⟩ : ∃ cs, bv (dig xs) = cs := ⟨_, rfl⟩
          have ho : cs.toArray.all (·.oneCell') = true := by rw [← hcs]; exact all_oneCell_toArray (bv_one _)
          have hl : cs.length = 32 := by rw [← hcs, bv_length]; exact dig_length xs
          rw [hcs] at hd
          have HC := Lib.hid hcs
          have hi25 : (Tryd.prog.info? 25).map (·.size) = some cs.toArray.size := by rw [List.size_toArray, hl]; kernel_rfl
          have hold : (bv (List.replicate 32 0)).toArray.size = cs.toArray.size := by rw [List.size_toArray, List.size_toArray, hl]; rfl
          have hw0 := HK.out.heap HW0.out (fun h => h)
          have HKE := Lib.hid (HKW.out.trans HK.out)
          clear HSM hcs HS HD hlt hi hl HK
          go_wp2_with (first | refine wpList_load_row rfl 25 (.tmp 6) rfl q6 rfl 25 cs.toArray (0, 0) _ hd Tryd.underlying25 rfl hi25 ?_ | refine wpList_store_row rfl 25 (.tmp 2) (.tmp 41) rfl q cs.toArray rfl rfl 25 _ hw0 hi25 hold ho ?_)
          have hfin := setRow_heap _ q _ cs.toArray 25 (0, 0) hw0
          exact bodyPost_ret (results_cell_row Tryd.results9 _ _ q 25 _ _ _ rfl hfin Tryd.underlying25 rfl hi25) rfl ⟨by rw [HC.out], HKE.out.rowNew (by rw [HQ.out]; exact Nat.le_refl _) _⟩
end Go.Proofs.YtoeniimgbinflaaDoor
