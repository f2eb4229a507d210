/- Add: bytes come. -/
import Derived.Test.YtoeniimgbinflaaDoorS5
namespace Go.Proofs.YtoeniimgbinflaaDoor
open Go.RowKit
theorem ne64 {rk r k : Nat} (h : r + k = rk) (hf : ¬ r + k = 64) : ¬ (rk : Int) = 64 := by omega
theorem lt64 {r k : Nat} (h1 : k ≤ 64 - r) (h2 : ¬ r + k = 64) (h3 : (r : Int) < 64) : r + k < 64 := by omega
set_option maxHeartbeats 4000000 in
theorem add_any (w : World) (sb : Nat) (l : List UInt8) (a : Option Addr) (cap : Nat) (xs : List UInt8) (h : StAt w sb l) (ht : Tab w) (h0 : sb ≠ 0) (hb : Bl w a xs) (hap : ∀ ad, a = some ad → 0 < xs.length → ad.block ≠ sb) (hc : xs.length ≤ cap) (hn : l.length + xs.length < 1000000000) :
    Calls Tryd.prog 11 #[.pointer (some ⟨sb, 0, none⟩), .slice a xs.length cap] w fun e w' => e = .returned (.int .i64 0) ∧ StAt w' sb (l ++ xs) ∧ Keep (fun i => i = sb) w w' := by
  have H0 := Lib.hid h
  have HB := Lib.hid hb
  have HT := Lib.hid ht
  have HA := Lib.hid hap
  have hc0 := h.cells.1
  clear h hb ht hap
  go_enter Tryd.func11, Tryd.ntmps11
  go_wp2_with (go_at_call 20; with_reducible refine (none_made _ sb true hc0).mono ?_; rintro e w ⟨rfl, rfl⟩)
  go_loopw [1] (fun t1 wr => ∃ (l1 ys : List UInt8) (a1 : Option Addr) (cap1 : Nat), l1 ++ ys = l ++ xs ∧ t1 = .slice a1 ys.length cap1 ∧ ys.length ≤ cap1 ∧ Bl w a1 ys ∧ (∀ ad, a1 = some ad → 0 < ys.length → ad.block ≠ sb) ∧ StAt wr sb l1 ∧ Keep (fun i => i = sb) w wr) (fun t1 _ => sliceLen t1)
  case atStart => exact ⟨l, xs, a, cap, rfl, rfl, hc, HB.out, HA.out, H0.out, Keep.refl _ _⟩
  case round =>
    obtain ⟨l1, ys, a1, cap1, he, rfl, hcy, hb1, ha1, hs1, hk1⟩ := hrel
    have HE := Lib.hid he
    have HB1 := Lib.hid hb1
    have HA1 := Lib.hid ha1
    have HK1 := Lib.hid hk1
    obtain ⟨wt, hw, hblk⟩ := hs1
    obtain ⟨c0, c73⟩ := stc_cells hblk hw.1
    have HW := Lib.hid hw
    have HBK := Lib.hid hblk
    clear he hb1 ha1 hk1 hw hblk
    by_cases hy : 0 < ys.length
    · have hll : l1.length + ys.length < 1000000000 := by have := congrArg List.length HE.out; simp only [List.length_append] at this; omega
      obtain ⟨y0, hy0⟩ : ∃ y, ys[0]? = some y := ⟨_, List.getElem?_eq_getElem hy⟩
      obtain ⟨b1, o1, rfl, _⟩ := HB1.out 0 y0 hy0
      clear hy0
      obtain ⟨n, hn1⟩ : ∃ n, l1.length = n := ⟨_, rfl⟩
      obtain ⟨m, hm⟩ : ∃ m, ys.length = m := ⟨_, rfl⟩
      have HN := Lib.hid hn1
      have HM := Lib.hid hm
      rw [hm] at hy hll hcy ⊢
      rw [hn1] at hll c73
      clear hn1 hm
      have hy' : 0 < (m : Int) := by omega
      obtain ⟨r, hr⟩ : ∃ r, n % 64 = r := ⟨_, rfl⟩
      have hrm : (n : Int).tmod 64 = r := by rw [Int.tmod_eq_emod_of_nonneg (by omega)]; omega
      have hr64 : (r : Int) < 64 := by omega
      have HSL := slice39 sb r (by omega)
      have HR := Lib.hid hr
      clear hr
      obtain ⟨k, hk⟩ : ∃ k, Nat.min m (64 - r) = k := ⟨_, rfl⟩
      have hkm : k ≤ m := by rw [← hk]; exact Nat.min_le_left _ _
      have hkr : k ≤ 64 - r := by rw [← hk]; exact Nat.min_le_right _ _
      have hk0 : 0 < k := by rw [← hk]; exact Nat.lt_min.2 ⟨hy, by omega⟩
      have hzl : (ys.take k).length = k := by rw [List.length_take, HM.out]; omega
      obtain ⟨X, HCP, hKX, hBX⟩ := copy_waits HBK.out HW.out.1 r m cap1 ⟨b1, o1, none⟩ (by omega) (by rw [hzl, hk]) ((HB1.out.keep HK1.out (fun ad h => HA1.out ad h (by rw [HM.out]; exact hy))).take k)
      rw [hzl] at HCP
      rw [HN.out] at hBX
      obtain ⟨a2, HS6, ha2, ha3⟩ := slice22 b1 o1 m cap1 k hkm hcy
      have hl2 : (l1 ++ ys.take k).length = n + k := by rw [List.length_append, HN.out, hzl]
      have hws : (splice wt r (ys.take k)).length = 64 := by rw [length_splice _ _ _ (by rw [hzl, HW.out.1]; omega), HW.out.1]
      obtain ⟨x0, x73⟩ := stc_cells hBX hws
      have xf : X.frozen? ⟨sb, 73, none⟩ = false := free_of hBX _
      have w1 : wrap64 ((n : Int) + k) = ((n + k : Nat) : Int) := by unfold wrap64; omega
      have HHX : Hid (Keep (fun i => i = sb) w X) := HK1.out.trans hKX
      have hYb := heap_setCell_at (i := 73) (v := .int .i64 ((n + k : Nat) : Int)) hBX
      rw [List.setIfInBounds_toArray, stc_setn _ _ _ _ hws] at hYb
      obtain ⟨Y, hY⟩ : ∃ Y, X.setCell ⟨sb, 73, none⟩ (.int .i64 ((n + k : Nat) : Int)) = Y := ⟨_, rfl⟩
      have HKY : Hid (Keep (fun i => i = sb) w Y) := by rw [← hY]; exact HHX.out.trans (Keep.setCell _ _ rfl)
      rw [hY] at hYb
      have HYB := Lib.hid hYb
      have HBN : Hid (Bl w (some a2) (ys.drop k)) := HB1.out.drop k a2 (by rw [HM.out]; exact ha3)
      have HAN : Hid (∀ ad, some a2 = some ad → 0 < (ys.drop k).length → ad.block ≠ sb) := fun ad he _ => by
        obtain rfl := Option.some.inj he
        rw [ha2]; exact HA1.out _ rfl (by rw [HM.out]; exact hy)
      have HEN : Hid ((l1 ++ ys.take k) ++ ys.drop k = l ++ xs) := by rw [List.append_assoc, List.take_append_drop]; exact HE.out
      have HDL : Hid (m - k = (ys.drop k).length) := Lib.hid (by rw [List.length_drop, HM.out])
      obtain ⟨nk, hnk⟩ : ∃ nk, n + k = nk := ⟨_, rfl⟩
      have HNK := Lib.hid hnk
      have HL2 : Hid ((l1 ++ ys.take k).length = nk) := by rw [← hnk]; exact hl2
      rw [hnk] at w1 hY HYB
      have HWS := Lib.hid hws
      by_cases hf : r + k = 64
      · have w2 : wrap64 ((r : Int) + k) = 64 := by unfold wrap64; omega
        have HFL := Lib.hid (waits_full (l := l1) (wt := wt) (ys := ys.take k) HW.out (by rw [HN.out, HR.out, hzl]; exact hf))
        rw [HN.out, HR.out] at HFL
        have HKK : Hid (k ≤ m ∧ m ≤ cap1 ∧ 0 < k) := ⟨hkm, hcy, hk0⟩
        clear hk hkm hkr hk0 hzl hKX hBX ha2 ha3 hl2 hws hYb hnk hf HBK
        go_wp2_with fail
        clear hY HCP HS6 x0 x73 xf w1 w2 HSL
        obtain ⟨wz, hwz⟩ : ∃ wz, splice wt r (ys.take k) = wz := ⟨_, rfl⟩
        rw [hwz] at HYB HFL HWS
        clear hwz
        obtain ⟨sm, hsm⟩ : ∃ sm, sums l1 = sm := ⟨_, rfl⟩
        rw [hsm] at HYB HFL
        clear hsm
        have HTY : Hid (∀ g : Later Y, Tab g.world) := fun g => (HT.out.keep HKY.out (fun e => h0 e.symm)).keep0 g.keep
        have HMX : Hid (∀ g : Later Y, Calls Tryd.prog 21 #[.agg sm.cs.toArray, .agg (bv wz).toArray] g.world fun e w' => e = .returned (.agg (mixed sm wz).cs.toArray) ∧ Keep (fun _ => False) g.world w') := fun g => mix_any sm wz HWS.out g.world (HTY.out g)
        have HB9 : Hid (∀ g : Later Y, g.world.heap[sb]? = some (.cells (stc sm wz nk).toArray 41 (0, 0))) := fun g => g.keep.heap HYB.out (fun h => h)
        have L38 : ∀ g : Later Y, (Instr.loadAt 38 (.pointer (some ⟨sb, 1, none⟩))).run Tryd.prog g.world = .ok (.agg sm.cs.toArray) g.world := fun g => run_loadAt_mid g.world sb 1 38 sm.cs _ (stc_sumsAt (HB9.out g)) Tryd.underlying38 rfl (by rw [show sm.cs.length = 8 from rfl]; kernel_rfl)
        have L39 : ∀ g : Later Y, (Instr.loadAt 39 (.pointer (some ⟨sb, 9, none⟩))).run Tryd.prog g.world = .ok (.agg (bv wz).toArray) g.world := fun g => run_loadAt_mid g.world sb 9 39 (bv wz) _ (stc_waitsAt (HB9.out g)) Tryd.underlying39 rfl (by rw [bv_length, HWS.out]; kernel_rfl)
        refine wp_region_later_tail 10 (by kernel_rfl) (by kernel_rfl) ?_
        simp only [List.take_succ_cons, List.take_zero, List.drop_succ_cons, List.drop_zero]
        repeat (first | refine wpQuiet_load rfl 38 (.tmp 42) rfl ⟨sb, 1, none⟩ (.agg sm.cs.toArray) rfl (fun w hw => by obtain ⟨g, rfl⟩ := hw; exact L38 g) ?_ | refine wpQuiet_load rfl 39 (.tmp 46) rfl ⟨sb, 9, none⟩ (.agg (bv wz).toArray) rfl (fun w hw => by obtain ⟨g, rfl⟩ := hw; exact L39 g) ?_ | (refine wpQuiet_step (fun K hK => ?_); go_simp; first | (refine hK _ ?_; clear hK K) | (apply Exists.intro; refine ⟨fun g => ?_, hK _ ?_⟩; (go_at_call 21; with_reducible exact Later.call (HMX.out g)); clear hK K)))
        refine wpQuiet_nil ?_
        intro Z hZ0
        obtain ⟨g0, hZ⟩ := hZ0
        have HBZ : Hid (Z.heap[sb]? = some (.cells (stc sm wz nk).toArray 41 (0, 0))) := hZ ▸ HB9.out g0
        have HKZ : Hid (Keep (fun i => i = sb) w Z) := hZ ▸ HKY.out.trans (g0.keep.mono (fun _ h => h.elim))
        clear hZ g0 HTY HMX HB9 L38 L39
        have hS := run_storeVar_at (P := Tryd.prog) Z sb 1 41 38 _ (mixed sm wz).cs HBZ.out (by rw [show (mixed sm wz).cs.length = 8 from rfl]; kernel_rfl) (by rw [List.size_toArray, stc_length _ _ _ HWS.out, show (mixed sm wz).cs.length = 8 from rfl]; decide) (by
          intro v hv
          unfold H8.cs at hv
          simp only [List.mem_cons, List.not_mem_nil, or_false] at hv
          rcases hv with rfl | rfl | rfl | rfl | rfl | rfl | rfl | rfl <;> rfl)
        rw [show (stc sm wz nk).toArray.toList = stc sm wz nk from rfl, stc_sets] at hS
        have hV := setRow_heap Z sb _ (stc (mixed sm wz) wz nk).toArray 41 (0, 0) HBZ.out
        have HKV : Hid (Keep (fun i => i = sb) w (Z.setRow sb (stc (mixed sm wz) wz nk).toArray)) := HKZ.out.trans (Keep.row _)
        have HST : Hid (StAt (Z.setRow sb (stc (mixed sm wz) wz nk).toArray) sb (l1 ++ ys.take k)) := ⟨wz, HFL.out.1, by rw [HFL.out.2, HL2.out]; exact hV⟩
        clear hV HBZ HKZ
        generalize Z.setRow sb (stc (mixed sm wz) wz nk).toArray = V at *
        have hS' := Lib.hid hS
        clear hS
        go_wp2_with (refine wpList_store_to rfl rfl 38 (.tmp 50) (.tmp 48) rfl ⟨sb, 1, none⟩ (.agg (mixed sm wz).cs.toArray) rfl rfl V hS'.out ?_)
        refine ⟨⟨l1 ++ ys.take k, ys.drop k, some a2, cap1 - k, HEN.out, by rw [HDL.out], by rw [← HDL.out]; have := HKK.out; omega, HBN.out, HAN.out, HST.out, HKV.out⟩, ?_⟩
        have := HKK.out
        simp only [sliceLen]
        omega
      · obtain ⟨rk, hrk⟩ : ∃ rk, r + k = rk := ⟨_, rfl⟩
        have w2 : wrap64 ((r : Int) + k) = (rk : Int) := by unfold wrap64; omega
        have w3 : ¬ (rk : Int) = 64 := ne64 hrk hf
        have hfl := waits_part (l := l1) (wt := wt) (ys := ys.take k) HW.out (by rw [HN.out, HR.out, hzl]; exact lt64 hkr hf hr64)
        rw [HN.out, HR.out] at hfl
        have HFL := Lib.hid hfl
        have HKK : Hid (k ≤ m ∧ m ≤ cap1 ∧ 0 < k) := ⟨hkm, hcy, hk0⟩
        clear hfl hk hkm hkr hk0 hzl hKX hBX ha2 ha3 hl2 hws hYb hnk hf HBK hrk
        have HST : Hid (StAt Y sb (l1 ++ ys.take k)) := ⟨_, HFL.out.1, by rw [HFL.out.2, HL2.out]; exact HYB.out⟩
        go_wp2_with fail
        refine ⟨⟨l1 ++ ys.take k, ys.drop k, some a2, cap1 - k, HEN.out, by rw [HDL.out], by rw [← HDL.out]; have := HKK.out; omega, HBN.out, HAN.out, HST.out, HKY.out⟩, ?_⟩
        have := HKK.out
        simp only [sliceLen]
        omega
    · have hy0 : ys = [] := List.eq_nil_of_length_eq_zero (by omega)
      subst hy0
      have hl1 := HE.out
      rw [List.append_nil] at hl1
      have HS1 : Hid (StAt wr sb (l ++ xs)) := by rw [← hl1]; exact ⟨wt, HW.out, HBK.out⟩
      clear hl1 hy
      go_wp2_with fail
      exact bodyPost_ret (results_tmp Tryd.results11 _ _ _) rfl ⟨rfl, HS1.out, HK1.out⟩
end Go.Proofs.YtoeniimgbinflaaDoor
