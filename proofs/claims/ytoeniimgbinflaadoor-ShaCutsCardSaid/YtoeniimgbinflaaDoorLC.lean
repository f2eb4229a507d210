/- What ShaCuts does: it answers true. -/
import Derived.Test.YtoeniimgbinflaaDoorLP
namespace Go.Proofs.YtoeniimgbinflaaDoor
open Go.RowKit
theorem own_len' {w : World} {base n : Nat} {v : Value} {vs : List Value} (h : w.ownsRow base 5 1 v n vs) : ∃ a cap, v = .slice a n cap ∧ n ≤ cap := by
  obtain ⟨a', cap', e, _, h2⟩ := own_len h
  exact ⟨a', cap', e, h2⟩
theorem flip8 (y : UInt8) : ∃ z : UInt8, bits .xor .u8 (y.toNat : Int) 1 = (z.toNat : Int) := by
  have h := UInt8.toNat_lt y
  refine ⟨y ^^^ 1, ?_⟩
  rw [u8_xor (y.toNat : Int) 1 (by omega) (by omega) (by decide) (by decide), UInt8.toNat_xor]
  rfl
set_option maxHeartbeats 4000000 in
set_option maxRecDepth 100000 in
theorem cuts_walk (w : World) (a : Option Addr) (cap : Nat) (ps : List (List UInt8)) (hp : Parts w a ps) (hr : ∀ p ∈ ps, p.length ≤ reachBytes) (ht : Tab w) (hm : ps.length ≤ maxLen) : Calls Tryd.prog 4 #[.slice a ps.length cap] w fun e w' => e = .returned (.bool true) ∧ Keep (fun _ => False) w w' := by
  obtain ⟨m, hml⟩ : ∃ m, ps.length = m := ⟨_, rfl⟩
  have HM := Lib.hid hml
  have HP := Lib.hid hp
  have HR := Lib.hid hr
  have HT := Lib.hid ht
  have HL : Hid (∀ W, Keep (fun _ => False) w W → Calls Tryd.prog 7 #[] W fun e w' => e = .returned (.bool true) ∧ Keep (fun _ => False) W w') := fun W k => lives_any W (HT.out.keep0 k)
  have HNEW : Hid (Calls Tryd.prog 10 #[] w fun e w' => ∃ sb, e = .returned (.pointer (some ⟨sb, 0, none⟩)) ∧ w.heap.size ≤ sb ∧ StAt w' sb [] ∧ Keep (fun _ => False) w w') := new_any w
  rw [hml] at hm ⊢
  unfold maxLen at hm
  clear hp hr ht hml
  go_enter Tryd.func4, Tryd.ntmps4
  go_upto_region 2 with (go_at_call 10; with_reducible refine HNEW.out.mono ?_; rintro e W1 ⟨sb, rfl, hsb, hs1, hk1⟩)
  have HS1 := Lib.hid hs1
  have HK1 := Lib.hid hk1
  have HSB := Lib.hid hsb
  obtain ⟨q, hq⟩ : ∃ q, W1.heap.size = q := ⟨_, rfl⟩
  have HQ := Lib.hid hq
  have HSQ : Hid (sb < q) := by obtain ⟨_, _, hh⟩ := hs1; rw [← hq]; exact lt_of_block hh
  clear hs1 hk1 hsb hq HNEW
  by_cases h30 : 30 < m
  · have h30' : (30 : Int) < m := by omega
    go_wp2_with (go_at_call 7; with_reducible refine (HL.out _ HK1.out).mono ?_; rintro e W2 ⟨rfl, hk2⟩)
    exact bodyPost_ret (results_tmp Tryd.results4 _ _ _) rfl ⟨rfl, HK1.out.trans hk2⟩
  · have h30' : ¬ (30 : Int) < m := by omega
    go_wp2_with fail
    clear h30'
    go_loopw [4, 24] (fun t4 t24 wr => ∃ (i : Nat) (L : List UInt8) (a4 : Option Addr) (c4 : Nat), i ≤ m ∧ t24 = .int .i64 i ∧ t4 = .slice a4 L.length c4 ∧ L = (ps.take i).flatten ∧ L.length ≤ 3000 ∧ StAt wr sb L ∧ Keep (fun _ => False) w wr ∧ q ≤ wr.heap.size ∧ wr.ownsRow q 5 1 (.slice a4 L.length c4) L.length (bv L)) (fun _ t24 _ => m - (intOf t24).toNat)
    case atStart => exact ⟨0, [], none, 0, Nat.zero_le _, rfl, rfl, rfl, Nat.zero_le _, HS1.out, HK1.out, by rw [HQ.out]; exact Nat.le_refl _, World.ownsRow_nil _ _ _ _⟩
    case round =>
      obtain ⟨i, L, a4, c4, hi, rfl, rfl, hL, hl3, hs, hk, hqs, ho⟩ := hrel
      have HS := Lib.hid hs
      have HK := Lib.hid hk
      have HO := Lib.hid ho
      have HLF := Lib.hid hL
      clear hs hk ho hL
      obtain ⟨n, hn⟩ : ∃ n, L.length = n := ⟨_, rfl⟩
      have HN := Lib.hid hn
      rw [hn] at hl3 HO ⊢
      clear hn
      by_cases hlt : i < m
      · have hlt' : (i : Int) < m := by omega
        obtain ⟨p, hpp⟩ : ∃ p, ps[i]? = some p := ⟨_, List.getElem?_eq_getElem (by rw [HM.out]; exact hlt)⟩
        obtain ⟨b, o, ai, ci, rfl, hc0, hci, hb0⟩ := HP.out i p hpp
        have hcell : wr.cell? ⟨b, o + i, none⟩ = some (.slice ai p.length ci) := (HK.out.rules.1 b _ (World.block_lt_of_cell? w _ hc0)).trans hc0
        have HBL : Hid (∀ W, Keep (fun _ => False) w W → Bl W ai p) := fun W k => hb0.keep0 k
        have hrp := HR.out p (List.mem_of_getElem? hpp)
        have HJ : Hid ((ps.take (i + 1)).flatten = L ++ p) := by rw [HLF.out]; exact joined_take ps i p hpp
        obtain ⟨k, hkp⟩ : ∃ k, p.length = k := ⟨_, rfl⟩
        have HPK := Lib.hid hkp
        rw [hkp] at hcell hrp
        have hrp' : k ≤ 140737488351232 := hrp
        have w1 : wrap64 ((n : Int) + k) = ((n + k : Nat) : Int) := by unfold wrap64; omega
        clear hc0 hb0 hpp hkp hci hrp
        by_cases h3 : 3000 < n + k
        · have h3' : (3000 : Int) < ((n + k : Nat) : Int) := by omega
          go_wp2_with (go_at_call 7; with_reducible refine (HL.out _ HK.out).mono ?_; rintro e W2 ⟨rfl, hk2⟩)
          exact bodyPost_ret (results_tmp Tryd.results4 _ _ _) rfl ⟨rfl, HK.out.trans hk2⟩
        · have h3' : ¬ (3000 : Int) < ((n + k : Nat) : Int) := by omega
          go_upto_region 11 with (at_builtin; refine wpList_app_bl rfl _ _ rfl q _ L p n k HN.out HPK.out ai ci rfl rfl hqs HO.out (HBL.out _ HK.out) (by omega) ?_; intro v5 W5 hown5 hgrow5)
          obtain ⟨n2, hn2⟩ : ∃ n2, n + k = n2 := ⟨_, rfl⟩
          have HN2 : Hid ((L ++ p).length = n2) := Lib.hid (by rw [List.length_append, HN.out, HPK.out, hn2])
          have HNB : Hid (n2 ≤ 3000 ∧ k ≤ 3000) := Lib.hid (by omega)
          have kg := Keep.grown hgrow5
          have HK5 : Hid (Keep (fun _ => False) w W5) := HK.out.step kg (fun x hx => .inr (by have := (HO.out.lt x hx).1; have := HSQ.out; have := HSB.out; omega))
          have HS5 : Hid (StAt W5 sb L) := HS.out.keep kg (fun hx => by have := (HO.out.lt sb hx).1; have := HSQ.out; omega)
          have hqs5 : q ≤ W5.heap.size := Nat.le_trans hqs kg.size
          rw [HN2.out] at hown5
          obtain ⟨a5, c5, rfl, _⟩ := own_len' hown5
          have HO5 := Lib.hid hown5
          obtain ⟨q7, hq7⟩ : ∃ q7, W5.heap.size = q7 := ⟨_, rfl⟩
          obtain ⟨X, hX⟩ : ∃ X, W5.alloc (.cells #[] 5) = X := ⟨_, rfl⟩
          have HX : Hid (Keep (fun _ => False) W5 X) := by rw [← hX]; exact Keep.alloc _ _ _
          have hx0 : X.heap[q7]? = some (.cells #[] 5 (0, 0)) := by rw [← hX, ← hq7]; exact heap_alloc_new _ _
          have hbx : q7 ≤ X.heap.size := by rw [← hq7]; exact HX.out.size
          have HQ7 := Lib.hid hq7
          have hk3 : p.length ≤ 500000000 := by have := HNB.out; have := HPK.out; omega
          clear hown5 hgrow5 kg HS HK HO hcell hn2 w1 h3' hqs
          go_upto_region 12 with (at_builtin; refine wpList_copy_bl rfl _ _ rfl q7 q7 p k HPK.out ai ci rfl rfl hbx (Nat.le_refl _) hx0 (HBL.out _ (HK5.out.trans HX.out)) hk3 ?_; intro g7 cap7 W7 hown7 hk7)
          have HX7 : Hid (Keep (fun _ => False) W5 W7) := HX.out.trans hk7
          have hgg : q7 ≤ g7 := (hown7.lt g7 rfl).1
          have hb7 : ∃ cur, W7.heap[g7]? = some (.cells cur 5 (0, 0)) ∧ ∀ j, j < k → ∃ y : UInt8, cur[j]? = some (.int .u8 (y.toNat : Int)) := by
            have hbl := Bl.ofOwn hown7
            rcases hown7.2 with ⟨hv, _⟩ | ⟨g, cp, cur, hv, _, hg, _⟩
            · simp at hv
            · simp only [Value.slice.injEq, Option.some.injEq, Addr.mk.injEq, and_true, true_and] at hv
              obtain ⟨rfl, rfl⟩ := hv
              refine ⟨cur, hg, fun j hj => ?_⟩
              obtain ⟨b', o', e, hc⟩ := hbl j _ (List.getElem?_eq_getElem (by rw [HPK.out]; exact hj))
              simp only [Option.some.injEq, Addr.mk.injEq, and_true] at e
              obtain ⟨rfl, rfl⟩ := e
              rw [Nat.zero_add, cell_of hg] at hc
              exact ⟨_, hc⟩
          obtain ⟨cur, hcur1, hcur2⟩ := hb7
          have HC1 := Lib.hid hcur1
          have HC2 := Lib.hid hcur2
          have hS7 : StAt W7 sb L := HS5.out.keep0 HX7.out
          have HGS : Hid (g7 ≠ sb ∧ sb < q ∧ q ≤ q7 ∧ q7 ≤ g7) := ⟨by have := HSQ.out; omega, HSQ.out, by omega, hgg⟩
          have A11 : Hid (Calls Tryd.prog 11 #[.pointer (some ⟨sb, 0, none⟩), .slice (some ⟨g7, 0, none⟩) k cap7] W7 fun e w' => e = .returned (.int .i64 0) ∧ StAt w' sb (L ++ p) ∧ Keep (fun i => i = sb) W7 w') := by
            rw [← HPK.out]
            have hcap := own_cap hown7
            exact add_any W7 sb L (some ⟨g7, 0, none⟩) cap7 p hS7 (HT.out.keep0 (HK5.out.trans HX7.out)) (by have := HT.out.lt; have := HSB.out; omega) (Bl.ofOwn hown7) (apart_row HGS.out.1) (by rw [HPK.out]; exact hcap) (by have := HNB.out; have := HN.out; have := HPK.out; have := HN2.out; rw [List.length_append] at this; omega)
          have A12 : Hid (∀ W, StAt W sb (L ++ p) → Calls Tryd.prog 12 #[.pointer (some ⟨sb, 0, none⟩)] W fun e w' => e = .returned (.int .i64 n2) ∧ w' = W) := fun W h => by rw [← HN2.out]; exact len_any W sb (L ++ p) h
          clear hown7 hk7 hcur1 hcur2 hS7 hgg hX hx0 hbx HX hq7 hqs5
          go_upto_region 15 with (first | (go_at_call 11; with_reducible refine A11.out.mono ?_; rintro e W8 ⟨rfl, hs8, hk8⟩; have HS8 := Lib.hid hs8; have HK8 := Lib.hid hk8; clear hs8 hk8) | (go_at_call 12; with_reducible refine (A12.out _ HS8.out).mono ?_; rintro e W8 ⟨rfl, rfl⟩))
          have H8W : Hid (Keep (fun _ => False) w W8) := (HK5.out.trans HX7.out).add HK8.out HSB.out
          have H8C : Hid (W8.heap[g7]? = some (.cells cur 5 (0, 0))) := HK8.out.heap HC1.out HGS.out.1
          have H8O : Hid (W8.ownsRow q 5 1 (.slice a5 n2 c5) n2 (bv (L ++ p))) := ownsRow_keep (ownsRow_keep HO5.out HX7.out (fun _ _ _ h => h)) HK8.out (fun x hx _ => by have := HGS.out; omega)
          have H8B : Hid (∀ g, (Value.slice a5 n2 c5).ownBlock = some g → ¬ g = g7) := fun g hg => by
            have h1 := (HO5.out.lt g hg).2
            have h2 := HGS.out
            rw [HQ7.out] at h1
            omega
          clear A11 A12 HO5 HX7 HC1 HK5 HS5
          have hk30 : (k : Int) ≤ 3000 := by have := HNB.out; omega
          go_loopw [54] (fun t54 wz => ∃ (x : Nat) (cr : Array Value), x ≤ k ∧ t54 = .int .i64 x ∧ Keep (fun i => i = g7) W8 wz ∧ wz.heap[g7]? = some (.cells cr 5 (0, 0)) ∧ ∀ j, j < k → ∃ y : UInt8, cr[j]? = some (.int .u8 (y.toNat : Int))) (fun t54 _ => k - (intOf t54).toNat)
          case atStart => exact ⟨0, cur, Nat.zero_le _, rfl, Keep.refl _ _, H8C.out, HC2.out⟩
          case round =>
            obtain ⟨x, cr, hx, rfl, hk, h1, h2⟩ := hrel
            have HKX := Lib.hid hk
            have HX1 := Lib.hid h1
            have HX2 := Lib.hid h2
            clear hk h1 h2
            by_cases hxk : x < k
            · have hxk' : (x : Int) < k := by omega
              obtain ⟨y, hy⟩ := HX2.out x hxk
              obtain ⟨z, hz⟩ := flip8 y
              have ce := (cell_of HX1.out x).trans hy
              have fz := free_of HX1.out x
              clear hy
              go_wp2_with fail
              refine ⟨⟨x + 1, cr.setIfInBounds x (.int .u8 (z.toNat : Int)), by omega, by go_num, HKX.out.trans (Keep.setCell _ _ rfl), heap_setCell_at HX1.out, fun j hj => ?_⟩, by simp [intOf]; omega⟩
              by_cases hjx : x = j
              · subst hjx
                obtain ⟨y', hy'⟩ := HX2.out x hj
                exact ⟨z, by rw [Array.getElem?_setIfInBounds_self, if_pos (Array.getElem?_eq_some_iff.1 hy').1]⟩
              · obtain ⟨y', hy'⟩ := HX2.out j hj
                exact ⟨y', by rw [Array.getElem?_setIfInBounds_ne hjx]; exact hy'⟩
            · have hxk' : ¬ (x : Int) < k := by omega
              obtain ⟨L2, hL2⟩ : ∃ L2, L ++ p = L2 := ⟨_, rfl⟩
              have HJ2 : Hid ((ps.take (i + 1)).flatten = L2) := Lib.hid (by rw [HJ.out, hL2])
              have HS2 := HS8.out.keep HKX.out (fun h => HGS.out.1 h.symm)
              have HO2 := ownsRow_keepB H8O.out HKX.out H8B.out
              have HN3 := HN2.out
              have HKW : Hid (Keep (fun _ => False) w _) := H8W.out.step HKX.out (fun x hx => .inr (by have := HGS.out; have := HSB.out; omega))
              rw [hL2] at HS2 HO2 HN3
              have HS3 := Lib.hid HS2
              have HO3 := Lib.hid HO2
              have HN4 := Lib.hid HN3
              obtain ⟨D, hD⟩ : ∃ D, dig L2 = D := ⟨_, rfl⟩
              have hDl : D.length = 32 := by rw [← hD]; exact dig_length L2
              obtain ⟨zs, hzs⟩ : ∃ zs, (bv D).toArray = zs := ⟨_, rfl⟩
              have HE : ∀ W, (Op.equalIn 10000 25 (.agg zs) (.agg zs)).run Tryd.prog W = .ok true W := fun W => by
                rw [← hzs, equal25 D D hDl hDl, beq_self_eq_true]
              have A13 := Lib.hid (sum_any _ sb L2 HS3.out (HT.out.keep0 HKW.out) (by rw [HN4.out]; have := HNB.out; omega))
              rw [hD, hzs] at A13
              have A9 : Hid (∀ W, Bl W a5 L2 → Calls Tryd.prog 9 #[.slice a5 n2 c5] W fun e w' => e = .returned (.agg zs) ∧ Keep (fun _ => False) W w') := fun W h => by
                rw [← hzs, ← hD, ← HN4.out]
                exact refsum_any W a5 c5 L2 h (by rw [HN4.out]; have := HNB.out; omega)
              clear hL2 HS2 HO2 HN3 hD hDl hzs HJ
              go_wp2_with (first | (go_at_call 13; with_reducible refine A13.out.mono ?_; rintro e W9 ⟨rfl, hk9⟩; have HK9 := Lib.hid hk9; clear hk9) | (go_at_call 9; with_reducible refine (A9.out _ (Bl.ofOwn (ownsRow_keep HO3.out HK9.out (fun _ _ _ h => h)))).mono ?_; rintro e W10 ⟨rfl, hk10⟩; have HK10 := Lib.hid (HK9.out.trans hk10); clear hk10))
              have HKF := Lib.hid (HKW.out.trans HK10.out)
              have HOF := ownsRow_keep HO3.out HK10.out (fun _ _ _ h => h)
              refine ⟨⟨i + 1, L2, a5, c5, by omega, by go_num, by rw [HN4.out], HJ2.out.symm, by rw [HN4.out]; exact HNB.out.1, HS3.out.keep0 HK10.out, HKF.out, ?_, by rw [HN4.out]; exact HOF⟩, by simp [intOf]; omega⟩
              have h1 := HKX.out.size
              have h2 := HK10.out.size
              have h3 := HK8.out.size
              have h4 := lt_of_block H8C.out
              have h5 := HGS.out
              omega
      · have hge : ¬ (i : Int) < m := by omega
        have hfl : ps.take i = ps := List.take_of_length_le (by rw [HM.out]; omega)
        have hLf := HLF.out
        rw [hfl] at hLf
        obtain ⟨D, hD⟩ : ∃ D, dig L = D := ⟨_, rfl⟩
        have hDl : D.length = 32 := by rw [← hD]; exact dig_length L
        obtain ⟨zs, hzs⟩ : ∃ zs, (bv D).toArray = zs := ⟨_, rfl⟩
        have HE : ∀ W, (Op.equalIn 10000 25 (.agg zs) (.agg zs)).run Tryd.prog W = .ok true W := fun W => by
          rw [← hzs, equal25 D D hDl hDl, beq_self_eq_true]
        have hl4 : L.length ≤ 3000 := by rw [HN.out]; exact hl3
        have A8 : Hid (Calls Tryd.prog 8 #[.slice a m cap] wr fun e w' => e = .returned (.agg zs) ∧ Keep (fun _ => False) wr w') := by
          rw [← hzs, ← hD, hLf, ← HM.out]
          exact sums_any wr a cap ps (HP.out.keep0 HK.out) (HT.out.keep0 HK.out) (by rw [HM.out]; omega) (by rw [← hLf]; omega)
        have A9 : Hid (∀ W, Keep (fun _ => False) wr W → Calls Tryd.prog 9 #[.slice a4 n c4] W fun e w' => e = .returned (.agg zs) ∧ Keep (fun _ => False) W w') := fun W k => by
          rw [← hzs, ← hD, ← HN.out]
          have hbl := (Bl.ofOwn HO.out).keep0 k
          exact refsum_any W a4 c4 L hbl (by omega)
        have A13 : Hid (∀ W, Keep (fun _ => False) wr W → Calls Tryd.prog 13 #[.pointer (some ⟨sb, 0, none⟩)] W fun e w' => e = .returned (.agg zs) ∧ Keep (fun _ => False) W w') := fun W k => by
          rw [← hzs, ← hD]
          exact sum_any W sb L (HS.out.keep0 k) (HT.out.keep0 (HK.out.trans k)) (by omega)
        have HR0 : Hid (Keep (fun _ => False) wr wr) := Keep.refl _ _
        clear hD hDl hzs hLf hfl hlt hi hl4 hl3 HS
        go_wp2_with (first | (go_at_call 8; with_reducible refine A8.out.mono ?_; rintro e W1 ⟨rfl, hk⟩; have HZ := Lib.hid hk; clear hk HR0) | (go_at_call 9; with_reducible refine (A9.out _ HZ.out).mono ?_; rintro e W1 ⟨rfl, hk⟩; have HZ := Lib.hid (HZ.out.trans hk); clear hk) | (go_at_call 13; with_reducible refine (A13.out _ HZ.out).mono ?_; rintro e W1 ⟨rfl, hk⟩; have HZ := Lib.hid (HZ.out.trans hk); clear hk) | (go_at_call 7; with_reducible refine (HL.out _ (HK.out.trans HZ.out)).mono ?_; rintro e W1 ⟨rfl, hk⟩; have HZ := Lib.hid (HZ.out.trans hk); clear hk))
        exact bodyPost_ret (results_tmp Tryd.results4 _ _ _) rfl ⟨rfl, HK.out.trans HZ.out⟩
theorem cuts_below (w : World) (a : Option Addr) (n cap : Nat) (ht : Tab w) (hn : n ≤ maxLen) (h : ∃ ps : List (List UInt8), n = ps.length ∧ Parts w a ps ∧ ∀ p ∈ ps, p.length ≤ reachBytes) : Calls Tryd.prog 4 #[.slice a n cap] w fun e w' => e = .returned (.bool true) ∧ Below w.heap.size w w' := by
  obtain ⟨ps, rfl, hp, hr⟩ := h
  exact (cuts_walk w a cap ps hp hr ht hn).mono fun _ _ ⟨h, k⟩ => ⟨h, k.below (Nat.le_refl _) (fun _ h => h.elim)⟩
end Go.Proofs.YtoeniimgbinflaaDoor
