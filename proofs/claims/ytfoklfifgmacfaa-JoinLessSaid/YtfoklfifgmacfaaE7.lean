/- What JoinLess does: it answers true. -/
import Derived.Test.YtfoklfifgmacfaaE6
namespace Go.Proofs.Ytfoklfifgmacfaa
open Go.RowKit
set_option maxHeartbeats 8000000 in
set_option maxRecDepth 100000 in
theorem less_walk (p : Int) (l : List C) (a : Option Addr) (cap : Nat) (w : World) (hl : l.length ≤ maxLen) (hc : Cs w a l) :
    Calls Try.prog 8 #[.int .i64 p, .slice a l.length cap] w fun e w' => e = .returned (.bool true) ∧ Keep (fun _ => False) w w' := by
  obtain ⟨n, hn⟩ : ∃ n, n = l.length := ⟨_, rfl⟩
  have HN := Lib.hid hn
  rw [← hn] at hl
  rw [← hn]
  have HC := Lib.hid hc
  unfold maxLen at hl
  obtain ⟨ii, hii, hzi, hsi, hbi⟩ := info_parts info27
  have HII : Hid (Try.prog.info? 27 = some ii ∧ ii.zero = some (.agg #[.int .i64 0, .int .i64 0, .int .i64 0, .int .i64 0, .bool false, .string ⟨#[]⟩, .int .i64 0, .int .i64 0]) ∧ ii.size = 8 ∧ ii.bytes = 72) := ⟨hii, hzi, hsi, hbi⟩
  have HLV : Hid (∀ W, Calls Try.prog 9 #[] W fun e w' => e = .returned (.bool true) ∧ Keep (fun _ => False) W w') := fun W => lives_any W
  clear hn hc hii hzi hsi hbi
  go_enter Try.func8, Try.ntmps8
  by_cases h60' : (60 : Int) < n
  · go_wp2_with (go_at_call 9; with_reducible refine (HLV.out _).mono ?_; rintro e w1 ⟨rfl, hk⟩)
    exact bodyPost_ret (by simp [results, Try.results8, go_sem]) rfl ⟨rfl, hk⟩
  · go_wp2_with fail
    go_loopw [17] (fun i wr => ∃ (k : Nat), k ≤ n ∧ i = .int .i64 k ∧ (∀ c ∈ l.take k, c.good p = true) ∧ Keep (fun _ => False) w wr) (fun i _ => n - (intOf i).toNat)
    case atStart => exact ⟨0, by omega, rfl, fun c hc => by simp at hc, Keep.refl _ _⟩
    case round =>
      obtain ⟨k, hk, rfl, hgd, hkp⟩ := hrel
      have HK := Lib.hid hkp
      have HG := Lib.hid hgd
      have HL := Lib.hid (HC.out.keep0 hkp)
      clear hkp hgd
      by_cases hlt : k < n
      · obtain ⟨x, hx⟩ : ∃ x, l[k]? = some x := ⟨_, List.getElem?_eq_getElem (by rw [← HN.out]; exact hlt)⟩
        obtain ⟨b, o, rfl, d0, d1, d2, d3, d4, d5, d6, d7⟩ := HL.out k x hx
        have hp0 : (0 : Int) ≤ k := by omega
        have hlt' : (k : Int) < n := by omega
        have HX := Lib.hid hx
        clear hx
        go_upto_region 6 with fail
        generalize hwx : wr.alloc (Obj.cells #[.int .i64 x.n, .int .i64 x.s, .int .i64 x.v0, .int .i64 x.v1, .bool x.gone, .string x.value, .int .i64 x.d0, .int .i64 x.d1] 27) = wx
        obtain ⟨q, hq⟩ : ∃ q, q = wr.heap.size := ⟨_, rfl⟩
        rw [← hq]
        have kx : Keep (fun _ => False) wr wx := by rw [← hwx]; exact Keep.alloc _ _ _
        have HQ : Hid (IsC wx q x) := by rw [← hwx, hq]; exact IsC.new wr x
        have HK1 := Lib.hid (HK.out.trans kx)
        have HGC : Hid (∀ w, Calls Try.prog 16 #[.int .i64 p, .agg #[.int .i64 x.n, .int .i64 x.s, .int .i64 x.v0, .int .i64 x.v1, .bool x.gone, .string x.value, .int .i64 x.d0, .int .i64 x.d1]] w fun e w' => e = .returned (.bool (x.good p)) ∧ Keep (fun _ => False) w w') := fun w => good_c p x w
        obtain ⟨bg, hbg⟩ : ∃ bg, x.good p = bg := ⟨_, rfl⟩
        rw [hbg] at HGC
        have HBG := Lib.hid hbg
        clear hwx hq kx d0 d1 d2 d3 d4 d5 d6 d7 HL HK hbg
        obtain ⟨q0, q1, q2, q3, q4, q5, q6, q7⟩ := HQ.out.cells
        cases bg
        · go_wp2_with (first | (go_at_call 16; with_reducible refine (HGC.out _).mono ?_; rintro e w1 ⟨rfl, hk1⟩; have HK1 := Lib.hid (HK1.out.trans hk1); clear hk1) | (go_at_call 9; with_reducible refine (HLV.out _).mono ?_; rintro e w2 ⟨rfl, hk2⟩; have HK2 := Lib.hid (HK1.out.trans hk2); clear hk2))
          exact bodyPost_ret (by simp [results, Try.results8, go_sem]) rfl ⟨rfl, HK2.out⟩
        · go_wp2_with (go_at_call 16; with_reducible refine (HGC.out _).mono ?_; rintro e w1 ⟨rfl, hk1⟩; have HK2 := Lib.hid (HK1.out.trans hk1); clear hk1)
          go_roundw
          case rel =>
            refine ⟨k + 1, by omega, by go_num, ?_, HK2.out⟩
            intro c hc
            rw [take_snoc HX.out] at hc
            rcases List.mem_append.1 hc with h | h
            · exact HG.out c h
            · simp at h; subst h; exact HBG.out
          case measure => simp [intOf] <;> omega
      · have hge : k = n := by omega
        subst hge
        obtain ⟨w00, hw00⟩ : ∃ x, x = wr := ⟨_, rfl⟩
        subst hw00
        have hall : l.take k = l := by rw [HN.out]; exact List.take_length
        obtain ⟨pq, hpq, hgq⟩ := policy_of p l (by have := HG.out; rw [hall] at this; exact this)
        have HGQ : Hid (∀ c ∈ l, c.good pq = true) := hgq
        have HP : Hid (pq = 1 ∨ pq = 2) := hpq
        have HK60 : Hid (k ≤ 60) := by have : k ≤ 60 := (by omega); exact this
        have A19 : Hid (Calls Try.prog 19 #[.slice a k cap] w00 fun e w' => ∃ v, e = .returned v ∧ w'.ownsRow w00.heap.size 3 1 v (need l l.length).length ((need l l.length).map fun (i : Nat) => Value.int .i64 (i : Int)) ∧ Keep (fun _ => False) w00 w') := by
          rw [HN.out]; exact needed_any l pq HP.out HGQ.out (by have := HN.out; omega) a cap w00 HL.out
        have HNL : Hid ((need l l.length).length ≤ k) := by have := need_len l l.length; rw [← HN.out] at this ⊢; exact this
        have HNS : Hid ((need l l.length).Pairwise (· < ·)) := need_sorted l l.length
        have HNT : Hid (∀ i ∈ need l l.length, i < k) := by rw [HN.out]; exact need_lt l l.length
        have HSM : Hid (some_ l l.length = (need l l.length).map (l.getD · C.zero)) := rfl
        have hj := join_some HGQ.out l.length (Nat.le_refl _)
        rw [List.take_length] at hj
        have hn2 := need_some HGQ.out l.length (Nat.le_refl _)
        have hg2 := some_good HGQ.out
        have HJ := Lib.hid hj
        have HN2 := Lib.hid hn2
        have HG2 := Lib.hid hg2
        generalize some_ l l.length = sm at *
        generalize need l l.length = nums at *
        obtain ⟨m0, hm0⟩ : ∃ m, m = nums.length := ⟨_, rfl⟩
        have HM0 := Lib.hid hm0
        rw [← hm0] at HNL A19
        clear hall hpq hgq hj hn2 hg2 hm0 HG hlt
        go_upto_region 12 with (go_at_call 19; with_reducible refine (A19.out).mono ?_; rintro e w1 ⟨v1, rfl, hr1, hk1⟩; obtain ⟨a1, c1, rfl, hc1, hc1'⟩ := own_len hr1; have HR1 := Lib.hid hr1; have HK1 := Lib.hid (HK.out.trans hk1); have HK1r := Lib.hid hk1; clear hr1 hk1 hc1 hc1')
        go_loopw [7, 8, 30] (fun sv lv i wz => ∃ (m : Nat) (z : Int), m ≤ m0 ∧ i = .int .i64 m ∧ lv = .int .i64 z ∧ (∀ x : Nat, nums[m]? = some x → z < (x : Int)) ∧ wz.ownsRow w1.heap.size 27 8 sv m (flat ((nums.take m).map (l.getD · C.zero))) ∧ Keep (fun _ => False) w1 wz) (fun _ _ i _ => m0 - (intOf i).toNat)
        case atStart => exact ⟨0, -1, by omega, rfl, rfl, fun x _ => by omega, World.ownsRow_nil _ _ _ _, Keep.refl _ _⟩
        case round =>
          obtain ⟨m, z, hm, rfl, rfl, hz, hrow, hkz⟩ := hrel
          obtain ⟨a2, c2, rfl, _, _⟩ := own_len hrow
          have HROW := Lib.hid hrow
          have HKZ := Lib.hid hkz
          have HL2 : Hid (Cs wr a l) := HC.out.keep0 (HK1.out.trans hkz)
          have HRZ : Hid (wr.ownsRow w00.heap.size 3 1 (Value.slice a1 m0 c1) m0 (nums.map fun (i : Nat) => Value.int .i64 (i : Int))) := ownsRow_keep HR1.out hkz (fun _ _ _ h => h)
          clear hrow hkz HL
          by_cases hlt : m < m0
          · obtain ⟨x, hx⟩ : ∃ x, nums[m]? = some x := ⟨_, List.getElem?_eq_getElem (by rw [← HM0.out]; exact hlt)⟩
            have hxk := HNT.out x (List.mem_of_getElem? hx)
            have hzx := hz x hx
            have HX := Lib.hid hx
            have hre : wr.ownsRow w00.heap.size 3 1 (Value.slice a1 m0 c1) nums.length (nums.map fun (i : Nat) => Value.int .i64 (i : Int)) := by rw [← HM0.out]; exact HRZ.out
            obtain ⟨g, rfl, hg⟩ := ns_of_row hre hx
            obtain ⟨y, hy⟩ : ∃ y, l[x]? = some y := ⟨_, List.getElem?_eq_getElem (by rw [← HN.out]; exact hxk)⟩
            obtain ⟨b, o, rfl, d0, d1, d2, d3, d4, d5, d6, d7⟩ := HL2.out x y hy
            have HY : Hid (l.getD x C.zero = y) := by rw [Hid, List.getD_eq_getElem?_getD, hy]; rfl
            have hp0 : (0 : Int) ≤ m := by omega
            have hm60 : (m : Int) ≤ 60 := by have := HNL.out; have := HK60.out; omega
            have hlt' : (m : Int) < m0 := by omega
            have hp1 : (0 : Int) ≤ x := by omega
            have hlx : (x : Int) < k := by omega
            have b1 : m ≤ 1000000 := by have := HNL.out; omega
            have b3 : w1.heap.size ≤ wr.heap.size := HKZ.out.size
            have B1 := Lib.hid b1
            have B3 := Lib.hid b3
            clear b1 b3
            clear hx hy hz hre
            go_wp2_with (at_builtin; refine append_cell rfl _ _ rfl w1.heap.size m c2 a2 _ y rfl HROW.out rfl B1.out B3.out ?_; intro g2 cap2 w5 hown hk5; have HO := Lib.hid hown; have HK5 := Lib.hid hk5; clear hown hk5)
            go_roundw
            case rel =>
              refine ⟨m + 1, x, by omega, by go_num, rfl, fun x' hx' => ?_, ?_, HKZ.out.step HK5.out (fun i hi => .inr hi)⟩
              · have := sorted_next HNS.out HX.out hx'; omega
              · rw [take_snoc HX.out, List.map_append, List.map_singleton, HY.out]; exact HO.out
            case measure => simp [intOf] <;> omega
          · have hge : m = m0 := by omega
            subst hge
            have hall : nums.take m = nums := by rw [HM0.out]; exact List.take_length
            have hrs : wr.ownsRow w1.heap.size 27 8 (.slice a2 m c2) sm.length (flat sm) := by
              have h := HROW.out
              rw [hall, ← HSM.out] at h
              have e : sm.length = m := by rw [HSM.out, List.length_map, HM0.out]
              rw [e]; exact h
            have e : sm.length = m := by rw [HSM.out, List.length_map, HM0.out]
            have hcs := cs_of_row hrs
            have HKW : Hid (Keep (fun _ => False) w wr) := HK1.out.trans HKZ.out
            have HJ1 : Hid (∀ W, Keep (fun _ => False) wr W → Calls Try.prog 12 #[.slice a2 m c2] W fun e w' => e = .returned (C.join l).v ∧ Keep (fun _ => False) W w') := fun W kw => by
              rw [← HJ.out, ← e]; exact join_any sm a2 c2 W (by have := HNL.out; have := HK60.out; omega) (hcs.keep0 kw)
            have HJ2 : Hid (∀ W, Keep (fun _ => False) wr W → Calls Try.prog 12 #[.slice a k cap] W fun e w' => e = .returned (C.join l).v ∧ Keep (fun _ => False) W w') := fun W kw => by
              have := join_any l a cap W (by have := HN.out; have := HK60.out; omega) (HL2.out.keep0 kw)
              rw [← HN.out] at this; exact this
            have HN3 : Hid (∀ W, Keep (fun _ => False) wr W → Calls Try.prog 19 #[.slice a2 m c2] W fun e w' => ∃ v, e = .returned v ∧ (∃ a3 c3, v = .slice a3 m c3) ∧ Keep (fun _ => False) W w') := fun W kw => by
              have h := needed_any sm pq HP.out HG2.out (by have := HNL.out; have := HK60.out; omega) a2 c2 W (hcs.keep0 kw)
              rw [e] at h
              refine h.mono ?_
              rintro e' w' ⟨v, rfl, hr, hk⟩
              obtain ⟨a3, c3, rfl, _, _⟩ := own_len hr
              have hn2 := HN2.out
              rw [e] at hn2
              exact ⟨_, rfl, ⟨a3, c3, by rw [hn2]⟩, hk⟩
            have H27 := fun w => equalIn27 9997 (C.join l) (C.join l) w
            generalize C.join l = z at *
            obtain ⟨zn, zs, zv0, zv1, zg, zt, zd0, zd1⟩ := z
            dsimp only [C.v] at HJ1 HJ2
            dsimp only at H27
            rw [decide_eq_true rfl] at H27
            clear hall hrs e hcs HROW HKZ HL2 HRZ hz HJ HN2 HG2
            go_wp2_with (first
              | (go_at_call 12; with_reducible refine (HJ1.out _ (Keep.refl _ _)).mono ?_; rintro e w2 ⟨rfl, hk⟩; have HR2 := Lib.hid hk; have HKW := Lib.hid (HKW.out.trans hk); clear hk)
              | (go_at_call 12; with_reducible refine (HJ2.out _ HR2.out).mono ?_; rintro e w2 ⟨rfl, hk⟩; have HR2 := Lib.hid (HR2.out.trans hk); have HKW := Lib.hid (HKW.out.trans hk); clear hk)
              | (go_at_call 19; with_reducible refine (HN3.out _ HR2.out).mono ?_; rintro e w2 ⟨v3, rfl, ⟨a3, c3, rfl⟩, hk⟩; have HKW := Lib.hid (HKW.out.trans hk); clear hk)
              | (go_at_call 9; with_reducible refine (HLV.out _).mono ?_; rintro e w2 ⟨rfl, hk⟩; have HKW := Lib.hid (HKW.out.trans hk); clear hk))
            exact bodyPost_ret (by simp [results, Try.results8, go_sem]) rfl ⟨rfl, HKW.out⟩
end Go.Proofs.Ytfoklfifgmacfaa
