/- What JoinDeletes does: it answers true. -/
import Derived.Test.YtfoklfifgmacfaaD1
import Derived.Test.YtfoklfifgmacfaaD2
import Derived.Test.YtfoklfifgmacfaaL4
namespace Go.Proofs.Ytfoklfifgmacfaa
open Go.RowKit
set_option maxHeartbeats 8000000 in
set_option maxRecDepth 100000 in
theorem deletes_walk (l : List C) (vs : List (Int × Int)) (a a2 : Option Addr) (cap cap2 : Nat) (w : World) (hl : l.length ≤ maxLen) (hl2 : vs.length ≤ maxLen) (hc : Cs w a l) (hv : Vs w a2 vs) :
    Calls Try.prog 7 #[.slice a l.length cap, .slice a2 vs.length cap2] w fun e w' => e = .returned (.bool true) ∧ Keep (fun _ => False) w w' := by
  obtain ⟨n, hn⟩ : ∃ n, n = l.length := ⟨_, rfl⟩
  obtain ⟨nv, hnv⟩ : ∃ n, n = vs.length := ⟨_, rfl⟩
  have HN := Lib.hid hn
  have HNV := Lib.hid hnv
  rw [← hn] at hl
  rw [← hnv] at hl2
  rw [← hn, ← hnv]
  have HC := Lib.hid hc
  have HV := Lib.hid hv
  unfold maxLen at hl hl2
  have HLV : Hid (∀ W, Calls Try.prog 9 #[] W fun e w' => e = .returned (.bool true) ∧ Keep (fun _ => False) W w') := fun W => lives_any W
  obtain ⟨S, ws⟩ : ∃ S, wrap64 ((n : Int) + nv) = S := ⟨_, rfl⟩
  clear hn hc hv hnv
  go_enter Try.func7, Try.ntmps7
  by_cases h60' : (60 : Int) < S
  · go_wp2_with (go_at_call 9; with_reducible refine (HLV.out _).mono ?_; rintro e w1 ⟨rfl, hk⟩)
    exact bodyPost_ret (by simp [results, Try.results7, go_sem]) rfl ⟨rfl, hk⟩
  · go_upto_region 5 with fail
    obtain ⟨r, hr⟩ : ∃ r, r = w.heap.size := ⟨_, rfl⟩
    rw [← hr]
    generalize hwb : w.alloc (Obj.cells #[.int .i64 0, .int .i64 0, .int .i64 0, .int .i64 0, .bool false, .string ⟨#[]⟩, .int .i64 0, .int .i64 0] 27) = wb
    obtain ⟨r6, hr6⟩ : ∃ r6, r6 = r + 1 := ⟨_, rfl⟩
    rw [← hr6]
    generalize hwa : wb.alloc (Obj.cells #[.int .i64 0, .int .i64 0, .int .i64 0, .int .i64 0, .bool false, .string ⟨#[]⟩, .int .i64 0, .int .i64 0] 27) = wa
    have hrb : r6 = wb.heap.size := by rw [hr6, hr, ← hwb]; simp
    have G0 : Hid (IsC wb r C.zero) := by rw [← hwb, hr]; exact IsC.new w C.zero
    have H0 : Hid (IsC wa r C.zero) := by rw [← hwa]; exact G0.out.keep0 (Keep.alloc _ _ _)
    have H1 : Hid (IsC wa r6 C.zero) := by rw [← hwa, hrb]; exact IsC.new wb C.zero
    have K0 : Hid (Keep (fun _ => False) w wa) := by rw [← hwa, ← hwb]; exact (Keep.alloc _ _ _).allocR _
    have HR : Hid (r = w.heap.size ∧ r6 = w.heap.size + 1) := ⟨hr, by rw [hr6, hr]⟩
    clear hr hr6 hrb hwa hwb G0 ws h60'
    go_wp2_with fail
    go_loopw [27] (fun i wr => ∃ (k : Nat) (m : C), k ≤ n ∧ i = .int .i64 k ∧ Put m ∧ IsC wr r m ∧ IsC wr r6 m ∧ Keep (fun _ => False) w wr) (fun i _ => n - (intOf i).toNat)
    case atStart => exact ⟨0, C.zero, by omega, rfl, Put.zero, H0.out, H1.out, K0.out⟩
    case round =>
      obtain ⟨k, m, hk, rfl, hput, h5, h6, hkp⟩ := hrel
      have HK := Lib.hid hkp
      have HP := Lib.hid hput
      have HL := Lib.hid (HC.out.keep0 hkp)
      have HM5 := Lib.hid h5
      have HM6 := Lib.hid h6
      clear hkp H0 H1 K0 hput h5 h6
      by_cases hlt : k < n
      · obtain ⟨x, hx⟩ : ∃ x, l[k]? = some x := ⟨_, List.getElem?_eq_getElem (by rw [← HN.out]; exact hlt)⟩
        obtain ⟨b, o, rfl, d0, d1, d2, d3, d4, d5, d6, d7⟩ := HL.out k x hx
        have hp0 : (0 : Int) ≤ k := by omega
        have hlt' : (k : Int) < n := by omega
        clear hx
        go_upto_region 8 with fail
        generalize hwx : wr.alloc (Obj.cells #[.int .i64 x.n, .int .i64 x.s, .int .i64 x.v0, .int .i64 x.v1, .bool x.gone, .string x.value, .int .i64 x.d0, .int .i64 x.d1] 27) = wx
        obtain ⟨q, hq⟩ : ∃ q, q = wr.heap.size := ⟨_, rfl⟩
        rw [← hq]
        have kx : Keep (fun _ => False) wr wx := by rw [← hwx]; exact Keep.alloc _ _ _
        have HQ : Hid (IsC wx q x) := by rw [← hwx, hq]; exact IsC.new wr x
        have HSQ : Hid (q = wr.heap.size) := hq
        have hlq : r6 < q := by rw [hq]; exact HM6.out.lt
        have hlw : w.heap.size ≤ q := by rw [hq]; exact HK.out.size
        have HLQ : Hid (r6 < q ∧ w.heap.size ≤ q) := ⟨hlq, hlw⟩
        clear hwx hq d0 d1 d2 d3 d4 d5 d6 d7 HL hlq hlw
        have q6 := HQ.out.cells.2.2.2.2.2.2.1
        have q7 := HQ.out.cells.2.2.2.2.2.2.2
        have fz := HQ.out.free
        go_upto_region 9 with fail
        clear q6 q7 fz
        generalize hwy : (wx.setCell ⟨q, 6, none⟩ (.int .i64 0)).setCell ⟨q, 7, none⟩ (.int .i64 0) = wy
        obtain ⟨p, hp⟩ : ∃ p, p = x.bury 0 0 := ⟨_, rfl⟩
        have HQ1 : Hid (IsC wy q p) := by rw [← hwy, hp]; exact HQ.out.setD 0 0
        have ky : Keep (fun i => i = q) wx wy := by rw [← hwy]; exact Keep.setD wx q 0 0
        have HM51 : Hid (IsC wy r m) := (HM5.out.keep0 kx).keep ky (by have := HLQ.out; have := HR.out; omega)
        have HM61 : Hid (IsC wy r6 m) := (HM6.out.keep0 kx).keep ky (by have := HLQ.out; omega)
        have HK1 : Hid (Keep (fun _ => False) w wy) := (HK.out.trans kx).step ky (fun i hi => .inr (by have := HLQ.out; omega))
        have HPD : Hid (p.d0 = 0 ∧ p.d1 = 0) := by rw [hp]; exact ⟨rfl, rfl⟩
        clear hwy hp kx ky HQ HM5 HM6 HK HSQ
        have HG : Hid (∀ w, Calls Try.prog 16 #[.int .i64 2, .agg #[.int .i64 p.n, .int .i64 p.s, .int .i64 p.v0, .int .i64 p.v1, .bool p.gone, .string p.value, .int .i64 p.d0, .int .i64 p.d1]] w fun e w' => e = .returned (.bool (p.good 2)) ∧ Keep (fun _ => False) w w') := fun w => good_c 2 p w
        obtain ⟨bg, hbg⟩ : ∃ bg, p.good 2 = bg := ⟨_, rfl⟩
        rw [hbg] at HG
        have HBG := Lib.hid hbg
        clear hbg
        obtain ⟨q0, q1, q2, q3, q4, q5, q6, q7⟩ := HQ1.out.cells
        cases bg
        · go_wp2_with (first | (go_at_call 16; with_reducible refine (HG.out _).mono ?_; rintro e w1 ⟨rfl, hk1⟩; have HK1 := Lib.hid (HK1.out.trans hk1); clear hk1) | (go_at_call 9; with_reducible refine (HLV.out _).mono ?_; rintro e w2 ⟨rfl, hk2⟩; have HK2 := Lib.hid (HK1.out.trans hk2); clear hk2))
          exact bodyPost_ret (by simp [results, Try.results7, go_sem]) rfl ⟨rfl, HK2.out⟩
        · have HPP : Hid (Put p) := ⟨HBG.out, HPD.out⟩
          obtain ⟨hz1, hz2⟩ := Put.two HP.out HPP.out
          obtain ⟨z, hz⟩ : ∃ z, z = p.two m := ⟨_, rfl⟩
          have A12 : Hid (∀ W b, W.heap[b]? = some (.cells #[.int .i64 p.n, .int .i64 p.s, .int .i64 p.v0, .int .i64 p.v1, .bool p.gone, .string p.value, .int .i64 p.d0, .int .i64 p.d1, .int .i64 m.n, .int .i64 m.s, .int .i64 m.v0, .int .i64 m.v1, .bool m.gone, .string m.value, .int .i64 m.d0, .int .i64 m.d1] 27 (0, 0)) → Calls Try.prog 12 #[.slice (some ⟨b, 0, none⟩) 2 2] W fun e w' => e = .returned (.agg #[.int .i64 z.n, .int .i64 z.s, .int .i64 z.v0, .int .i64 z.v1, .bool z.gone, .string z.value, .int .i64 z.d0, .int .i64 z.d1]) ∧ Keep (fun _ => False) W w') := fun W b h => by rw [hz, ← C.join_two HPP.out.1]; exact join_c2 p m b W h
          rw [← hz] at hz1 hz2
          have HZ1 := Lib.hid hz1
          have HZ2 := Lib.hid hz2
          have A10 : Hid (∀ W, Calls Try.prog 10 #[.agg #[.int .i64 m.n, .int .i64 m.s, .int .i64 m.v0, .int .i64 m.v1, .bool m.gone, .string m.value, .int .i64 m.d0, .int .i64 m.d1], .agg #[.int .i64 p.n, .int .i64 p.s, .int .i64 p.v0, .int .i64 p.v1, .bool p.gone, .string p.value, .int .i64 p.d0, .int .i64 p.d1]] W fun e w' => e = .returned (.bool (m.less p)) ∧ Keep (fun _ => False) W w') := fun W => less_any _ _ _ _ _ _ _ _ _ _ _ _ _ _ _ _ W
          obtain ⟨lb, hlb⟩ : ∃ lb, m.less p = lb := ⟨_, rfl⟩
          rw [hlb] at A10 HZ1
          clear hz hz1 hz2 HBG HPD hlb
          go_upto_region 11 with (go_at_call 16; with_reducible refine (HG.out _).mono ?_; rintro e w1 ⟨rfl, hk1⟩; have HK2 := Lib.hid (HK1.out.trans hk1); have HQ2 := Lib.hid (HQ1.out.keep0 hk1); have HM52 := Lib.hid (HM51.out.keep0 hk1); have HM62 := Lib.hid (HM61.out.keep0 hk1); clear hk1 q0 q1 q2 q3 q4 q5 q6 q7)
          obtain ⟨q0, q1, q2, q3, q4, q5, q6, q7⟩ := HQ2.out.cells
          obtain ⟨m0, m1, m2, m3, m4, m5, m6, m7⟩ := HM52.out.cells
          obtain ⟨qs, hqs⟩ : ∃ qs, w1.heap.size = qs := ⟨_, rfl⟩
          go_upto_region 12 with (go_at_call 12; with_reducible refine (A12.out _ _ (new_at _ _ _ _ hqs.symm)).mono ?_; rintro e w3 ⟨rfl, hk3⟩; have HK3 := Lib.hid ((HK2.out.allocR _).trans hk3); have HQ3 := Lib.hid (HQ2.out.keep0 ((Keep.alloc _ _ _).trans hk3)); have HM53 := Lib.hid (HM52.out.keep0 ((Keep.alloc _ _ _).trans hk3)); have HM63 := Lib.hid (HM62.out.keep0 ((Keep.alloc _ _ _).trans hk3)); clear hk3 q0 q1 q2 q3 q4 q5 q6 q7 m0 m1 m2 m3 m4 m5 m6 m7; obtain ⟨m0, m1, m2, m3, m4, m5, m6, m7⟩ := HM53.out.cells; have fz := HM53.out.free)
          generalize hw4 : World.setCell _ (⟨r, 7, none⟩ : Addr) (Value.int IntKind.i64 z.d1) = w4
          have k4 : Keep (fun i => i = r) w3 w4 := by rw [← hw4]; exact Keep.set8 w3 r z
          have HM54 : Hid (IsC w4 r z) := by rw [← hw4]; exact HM53.out.set z
          have HM64 : Hid (IsC w4 r6 m) := HM63.out.keep k4 (by have := HR.out; omega)
          have HQ4 : Hid (IsC w4 q p) := HQ3.out.keep k4 (by have := HR.out; have := HLQ.out; omega)
          have HK4 : Hid (Keep (fun _ => False) w w4) := HK3.out.step k4 (fun i hi => .inr (by have := HR.out; omega))
          clear hw4 k4 fz HM53 HM63 HQ3 HK3 m0 m1 m2 m3 m4 m5 m6 m7 HG A12 hqs
          obtain ⟨q0, q1, q2, q3, q4, q5, q6, q7⟩ := HQ4.out.cells
          obtain ⟨m0, m1, m2, m3, m4, m5, m6, m7⟩ := HM64.out.cells
          cases lb
          · go_wp2_with (go_at_call 10; with_reducible refine (A10.out _).mono ?_; rintro e w5 ⟨rfl, hk5⟩; have HK5 := Lib.hid (HK4.out.trans hk5); have HM55 := Lib.hid (HM54.out.keep0 hk5); have HM65 := Lib.hid (HM64.out.keep0 hk5); clear hk5 q0 q1 q2 q3 q4 q5 q6 q7 m0 m1 m2 m3 m4 m5 m6 m7)
            go_roundw
            case rel => exact ⟨k + 1, z, by omega, by go_num, HZ2.out, HM55.out, by (have e : z = m := by rw [HZ1.out]; simp); rw [e]; exact HM65.out, HK5.out⟩
            case measure => simp [intOf] <;> omega
          · go_wp2_with (go_at_call 10; with_reducible refine (A10.out _).mono ?_; rintro e w5 ⟨rfl, hk5⟩; have HK5 := Lib.hid (HK4.out.trans hk5); have HM55 := Lib.hid (HM54.out.keep0 hk5); have HM65 := Lib.hid (HM64.out.keep0 hk5); have HQ5 := Lib.hid (HQ4.out.keep0 hk5); clear hk5 q0 q1 q2 q3 q4 q5 q6 q7 m0 m1 m2 m3 m4 m5 m6 m7; obtain ⟨q0, q1, q2, q3, q4, q5, q6, q7⟩ := HQ5.out.cells; obtain ⟨m0, m1, m2, m3, m4, m5, m6, m7⟩ := HM65.out.cells; have fz := HM65.out.free)
            go_roundw
            case rel => exact ⟨k + 1, z, by omega, by go_num, HZ2.out, HM55.out.keep (Keep.set8 _ r6 p) (by have := HR.out; omega), by (have e : z = p := by rw [HZ1.out]; simp); rw [e]; exact HM65.out.set p, HK5.out.step (Keep.set8 _ r6 p) (fun i hi => .inr (by have := HR.out; omega))⟩
            case measure => simp [intOf] <;> omega
      · have hge : ¬ (k : Int) < n := by omega
        clear HL hlt hk
        obtain ⟨m0, m1, m2, m3, m4, m5, m6, m7⟩ := HM6.out.cells
        have H27 := fun w => equalIn27 9997 m ⟨0, 0, 0, 0, false, ⟨#[]⟩, 0, 0⟩ w
        dsimp only at H27
        obtain ⟨b0, hb0⟩ : ∃ b0, decide (m = (⟨0, 0, 0, 0, false, ⟨#[]⟩, 0, 0⟩ : C)) = b0 := ⟨_, rfl⟩
        rw [hb0] at H27
        have HB0 : Hid ((!b0) = (m.written && vcov m.v0 m.v1 0 0)) := by rw [← HP.out.cover, ← hb0]; rfl
        have HM50 : Hid (IsC wr r (m.bury 0 0)) := by have e : m.bury 0 0 = m := HP.out.write; rw [e]; exact HM5.out
        clear hb0 HM5
        go_upto_region 16 with fail
        generalize (!b0) = bn at *
        clear H27 m0 m1 m2 m3 m4 m5 m6 m7
        go_wp2_with fail
        go_loopw [9, 51] (fun kn i wr => ∃ (k2 : Nat) (p q : Int), k2 ≤ nv ∧ i = .int .i64 k2 ∧ vgood p q = true ∧ kn = .bool (m.written && vcov m.v0 m.v1 p q) ∧ IsC wr r (m.bury p q) ∧ IsC wr r6 m ∧ Keep (fun _ => False) w wr) (fun _ i _ => nv - (intOf i).toNat)
        case atStart => exact ⟨0, 0, 0, by omega, rfl, by decide, by rw [← HB0.out], HM50.out, HM6.out, HK.out⟩
        case round =>
          obtain ⟨k2, p, q, hk2, rfl, hvg, rfl, h5, h6, hkp⟩ := hrel
          have HVG := Lib.hid hvg
          have HG5 := Lib.hid h5
          have HG6 := Lib.hid h6
          have HK1 := Lib.hid hkp
          have HL2 := Lib.hid (HV.out.keep0 hkp)
          obtain ⟨kb, hkb⟩ : ∃ kb, (m.written && vcov m.v0 m.v1 p q) = kb := ⟨_, rfl⟩
          rw [hkb]
          have HKB := Lib.hid hkb
          clear hvg h5 h6 hkp hkb HM50 HM6 HK HB0
          by_cases hlt2 : k2 < nv
          · obtain ⟨x, hx⟩ : ∃ x, vs[k2]? = some x := ⟨_, List.getElem?_eq_getElem (by rw [← HNV.out]; exact hlt2)⟩
            obtain ⟨b, o, rfl, d0, d1⟩ := HL2.out k2 x hx
            obtain ⟨x1, x2⟩ := x
            dsimp only at d0 d1
            have hp0 : (0 : Int) ≤ k2 := by omega
            have hlt' : (k2 : Int) < nv := by omega
            clear hx
            go_upto_region 19 with fail
            generalize hwx : wr.alloc (Obj.cells #[Value.int IntKind.i64 x1, Value.int IntKind.i64 x2] 25) = wx
            obtain ⟨q11, hq11⟩ : ∃ q, q = wr.heap.size := ⟨_, rfl⟩
            rw [← hq11]
            have kx : Keep (fun _ => False) wr wx := by rw [← hwx]; exact Keep.alloc _ _ _
            have HV2 : Hid (IsV wx q11 x1 x2) := by rw [← hwx, hq11]; exact IsV.new wr x1 x2
            have HG52 := Lib.hid (HG5.out.keep0 kx)
            have HG62 := Lib.hid (HG6.out.keep0 kx)
            have HK2 := Lib.hid (HK1.out.trans kx)
            have hlq : r6 < q11 := by rw [hq11]; exact HG6.out.lt
            have hlw : w.heap.size ≤ q11 := by rw [hq11]; exact HK1.out.size
            have HLQ : Hid (r6 < q11 ∧ w.heap.size ≤ q11) := ⟨hlq, hlw⟩
            clear hwx hq11 kx d0 d1 HG5 HG6 HK1 HL2 hlq hlw
            obtain ⟨v0, v1, _, _⟩ := HV2.out.cells
            by_cases hxv : vgood x1 x2 = true
            · have A18 : Hid (∀ W, Calls Try.prog 18 #[.int .i64 2, .agg #[.int .i64 1, .int .i64 1], .agg #[.int .i64 x1, .int .i64 x2], .bool true, .string ⟨#[]⟩] W fun e w' => e = .returned (.tuple #[.agg #[.int .i64 0, .int .i64 0, .int .i64 0, .int .i64 0, .bool false, .string ⟨#[]⟩, .int .i64 x1, .int .i64 x2], .int .i64 0]) ∧ Keep (fun _ => False) W w') := fun W => (of_any x1 x2 W).mono fun e w' ⟨⟨b, hb, he⟩, hk⟩ => ⟨by rw [hxv] at hb; subst hb; simpa using he, hk⟩
              go_upto_region 21 with (go_at_call 18; with_reducible refine (A18.out _).mono ?_; rintro e w4 ⟨rfl, hk⟩; have HK3 := Lib.hid (HK2.out.trans hk); have HG53 := Lib.hid (HG52.out.keep0 hk); have HG63 := Lib.hid (HG62.out.keep0 hk); have HV3 := Lib.hid (HV2.out.keep0 hk); clear hk v0 v1)
              generalize hwy : w4.alloc (Obj.cells #[.int .i64 0, .int .i64 0, .int .i64 0, .int .i64 0, .bool false, .string ⟨#[]⟩, .int .i64 x1, .int .i64 x2] 27) = wy
              obtain ⟨q12, hq12⟩ : ∃ q, q = w4.heap.size := ⟨_, rfl⟩
              rw [← hq12]
              have ky : Keep (fun _ => False) w4 wy := by rw [← hwy]; exact Keep.alloc _ _ _
              have HD : Hid (IsC wy q12 ⟨0, 0, 0, 0, false, ⟨#[]⟩, x1, x2⟩) := by rw [← hwy, hq12]; exact IsC.new w4 ⟨0, 0, 0, 0, false, ⟨#[]⟩, x1, x2⟩
              have HK4 := Lib.hid (HK3.out.trans ky)
              have HG64 := Lib.hid (HG63.out.keep0 ky)
              have HV4 := Lib.hid (HV3.out.keep0 ky)
              obtain ⟨hj1, hj2⟩ := HP.out.join_delete HVG.out hxv
              obtain ⟨g, hg⟩ : ∃ g, g = m.bury p q := ⟨_, rfl⟩
              have HG54 : Hid (IsC wy r g) := by rw [hg]; exact HG53.out.keep0 ky
              obtain ⟨z, hz⟩ : ∃ z, z = m.bury (max p x1) (max q x2) := ⟨_, rfl⟩
              have A12 : Hid (∀ W b, W.heap[b]? = some (.cells #[.int .i64 g.n, .int .i64 g.s, .int .i64 g.v0, .int .i64 g.v1, .bool g.gone, .string g.value, .int .i64 g.d0, .int .i64 g.d1, .int .i64 0, .int .i64 0, .int .i64 0, .int .i64 0, .bool false, .string ⟨#[]⟩, .int .i64 x1, .int .i64 x2] 27 (0, 0)) → Calls Try.prog 12 #[.slice (some ⟨b, 0, none⟩) 2 2] W fun e w' => e = .returned (.agg #[.int .i64 z.n, .int .i64 z.s, .int .i64 z.v0, .int .i64 z.v1, .bool z.gone, .string z.value, .int .i64 z.d0, .int .i64 z.d1]) ∧ Keep (fun _ => False) W w') := fun W b h => by rw [hz, ← hj1, ← hg]; exact join_c2 g ⟨0, 0, 0, 0, false, ⟨#[]⟩, x1, x2⟩ b W h
              have HZ := Lib.hid hz
              have HJ2 := Lib.hid hj2
              clear hwy hq12 ky HG53 HG63 HV3 HK3 hj1 hj2 hg hz A18 hxv
              obtain ⟨g0, g1, g2, g3, g4, g5, g6, g7⟩ := HG54.out.cells
              obtain ⟨f0, f1, f2, f3, f4, f5, f6, f7⟩ := HD.out.cells
              dsimp only at f0 f1 f2 f3 f4 f5 f6 f7
              obtain ⟨qs, hqs⟩ : ∃ qs, wy.heap.size = qs := ⟨_, rfl⟩
              go_upto_region 22 with (go_at_call 12; with_reducible refine (A12.out _ _ (new_at _ _ _ _ hqs.symm)).mono ?_; rintro e w5 ⟨rfl, hk5⟩; have HK5 := Lib.hid ((HK4.out.allocR _).trans hk5); have HG55 := Lib.hid (HG54.out.keep0 ((Keep.alloc _ _ _).trans hk5)); have HG65 := Lib.hid (HG64.out.keep0 ((Keep.alloc _ _ _).trans hk5)); have HV5 := Lib.hid (HV4.out.keep0 ((Keep.alloc _ _ _).trans hk5)); clear hk5 g0 g1 g2 g3 g4 g5 g6 g7 f0 f1 f2 f3 f4 f5 f6 f7; obtain ⟨g0, g1, g2, g3, g4, g5, g6, g7⟩ := HG55.out.cells; have fz := HG55.out.free)
              generalize hw6 : World.setCell _ (⟨r, 7, none⟩ : Addr) (Value.int IntKind.i64 z.d1) = w6
              have k6 : Keep (fun i => i = r) w5 w6 := by rw [← hw6]; exact Keep.set8 w5 r z
              have HG56 : Hid (IsC w6 r z) := by rw [← hw6]; exact HG55.out.set z
              have HG66 : Hid (IsC w6 r6 m) := HG65.out.keep k6 (by have := HR.out; omega)
              have HV6 : Hid (IsV w6 q11 x1 x2) := HV5.out.keep k6 (by have := HR.out; have := HLQ.out; omega)
              have HK6 : Hid (Keep (fun _ => False) w w6) := HK5.out.step k6 (fun i hi => .inr (by have := HR.out; omega))
              clear hw6 k6 fz HG55 HG65 HV5 HK5 g0 g1 g2 g3 g4 g5 g6 g7 A12 hqs HD HG54 HG64 HV4 HK4
              obtain ⟨y0, y1, y2, y3, y4, y5, y6, y7⟩ := HG66.out.cells
              obtain ⟨v0, v1, _, _⟩ := HV6.out.cells
              have HCS := Lib.hid (cover_step m.written m.v0 m.v1 p q x1 x2)
              rw [HKB.out] at HCS
              cases kb
              · go_wp2_with fail
                go_roundw
                case rel => exact ⟨k2 + 1, max p x1, max q x2, by omega, by go_num, HJ2.out, by rw [HCS.out]; simp, by rw [← HZ.out]; exact HG56.out, HG66.out, HK6.out⟩
                case measure => simp [intOf] <;> omega
              · by_cases c1 : x1 ≤ m.v0
                · by_cases c2 : x2 ≤ m.v1
                  · go_wp2_with fail
                    go_roundw
                    case rel => exact ⟨k2 + 1, max p x1, max q x2, by omega, by go_num, HJ2.out, by rw [HCS.out]; simp [c1, c2], by rw [← HZ.out]; exact HG56.out, HG66.out, HK6.out⟩
                    case measure => simp [intOf] <;> omega
                  · go_wp2_with fail
                    go_roundw
                    case rel => exact ⟨k2 + 1, max p x1, max q x2, by omega, by go_num, HJ2.out, by rw [HCS.out]; simp [c1, c2], by rw [← HZ.out]; exact HG56.out, HG66.out, HK6.out⟩
                    case measure => simp [intOf] <;> omega
                · go_wp2_with fail
                  go_roundw
                  case rel => exact ⟨k2 + 1, max p x1, max q x2, by omega, by go_num, HJ2.out, by rw [HCS.out]; simp [c1], by rw [← HZ.out]; exact HG56.out, HG66.out, HK6.out⟩
                  case measure => simp [intOf] <;> omega
            · have A18 : Hid (∀ W, Calls Try.prog 18 #[.int .i64 2, .agg #[.int .i64 1, .int .i64 1], .agg #[.int .i64 x1, .int .i64 x2], .bool true, .string ⟨#[]⟩] W fun e w' => e = .returned (.tuple #[.agg #[.int .i64 0, .int .i64 0, .int .i64 0, .int .i64 0, .bool false, .string ⟨#[]⟩, .int .i64 0, .int .i64 0], .int .i64 2]) ∧ Keep (fun _ => False) W w') := fun W => (of_any x1 x2 W).mono fun e w' ⟨⟨b, hb, he⟩, hk⟩ => ⟨by rw [show vgood x1 x2 = false by simpa using hxv] at hb; subst hb; simpa using he, hk⟩
              clear hxv
              go_wp2_with (go_at_call 18; with_reducible refine (A18.out _).mono ?_; rintro e w4 ⟨rfl, hk⟩; have HK3 := Lib.hid (HK2.out.trans hk); have HG53 := Lib.hid (HG52.out.keep0 hk); have HG63 := Lib.hid (HG62.out.keep0 hk); clear hk v0 v1)
              go_roundw
              case rel => exact ⟨k2 + 1, p, q, by omega, by go_num, HVG.out, by rw [HKB.out], HG53.out.keep0 (Keep.alloc _ _ _), HG63.out.keep0 (Keep.alloc _ _ _), HK3.out.allocR _⟩
              case measure => simp [intOf] <;> omega
          · have hge2 : ¬ (k2 : Int) < nv := by omega
            have hsh := HP.out.shows HVG.out
            rw [HKB.out] at hsh
            have hsi : (m.bury p q).sight 2 = if kb = true then m.value else ⟨#[]⟩ := by unfold C.sight; rw [hsh]; rfl
            have HS : Hid (∀ W, Calls Try.prog 17 #[.int .i64 2, .agg #[.int .i64 (m.bury p q).n, .int .i64 (m.bury p q).s, .int .i64 (m.bury p q).v0, .int .i64 (m.bury p q).v1, .bool (m.bury p q).gone, .string (m.bury p q).value, .int .i64 (m.bury p q).d0, .int .i64 (m.bury p q).d1]] W fun e w' => e = .returned (.tuple #[.string (if kb = true then m.value else ⟨#[]⟩), .bool kb]) ∧ Keep (fun _ => False) W w') := fun W => by rw [← hsi]; exact hsh ▸ seen_c 2 (m.bury p q) W
            clear hsh hsi HL2
            obtain ⟨g0, g1, g2, g3, g4, g5, g6, g7⟩ := HG5.out.cells
            cases kb
            all_goals
              simp only [if_true, if_false, Bool.false_eq_true] at HS
              go_wp2_with (first
                | (go_at_call 17; with_reducible refine (HS.out _).mono ?_; rintro e w2 ⟨rfl, hk⟩; have HK2 := Lib.hid (HK1.out.trans hk); have HG62 := Lib.hid (HG6.out.keep0 hk); clear hk g0 g1 g2 g3 g4 g5 g6 g7; obtain ⟨y0, y1, y2, y3, y4, y5, y6, y7⟩ := HG62.out.cells)
                | (go_at_call 9; with_reducible refine (HLV.out _).mono ?_; rintro e w3 ⟨rfl, hk⟩; have HK3 := Lib.hid (HK2.out.trans hk); clear hk))
              exact bodyPost_ret (by simp [results, Try.results7, go_sem]) rfl ⟨rfl, HK3.out⟩
end Go.Proofs.Ytfoklfifgmacfaa
