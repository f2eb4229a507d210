/- The walk of ClockPlays: it returns true and turns nothing that was there. -/
import Derived.Test.YtcadamdlfelocaaL2
import Derived.Deep.RegionHeld3
namespace Go.Proofs.Ytcadamdlfelocaa
open Go.RowKit
theorem Ck.ok_meet {c : Ck} (h : c.Ok) (x : St) : (c.meet x).Ok := ⟨h.s, St.good_later h.l, h.t0, h.t1⟩
theorem Ck.told_tick (c : Ck) (now : Int) : (c.tick now).told ≤ c.told + 1 := by
  unfold Ck.tick; split
  · exact Int.le_refl _
  · omega
theorem Keep.cellq {S : Nat → Prop} {w w' : World} {q j : Nat} {v : Value} (k : Keep S w w') (hs : ¬ S q) (h : w.cell? ⟨q, j, none⟩ = some v) : w'.cell? ⟨q, j, none⟩ = some v := by
  rw [World.cell?_of_block (w := w) (k.block q (World.block_lt_of_cell? _ _ h) hs), h]
def Ck.meetAny (c : Ck) (x y : Int) : Ck := if (St.mk x y).good = true then c.meet ⟨x, y⟩ else c
def meetErr (x y : Int) : Int := if (St.mk x y).good = true then 0 else 2
theorem meet_any (w : World) (b : Nat) (c : Ck) (hc : c.Ok) (h : IsCk w b 56 c) (x y : Int) :
    Calls Try.prog 9 #[.pointer (some ⟨b, 0, none⟩), .agg #[.int .i64 x, .int .i64 y]] w fun e w' => e = .returned (.int .i64 (meetErr x y)) ∧ IsCk w' b 56 (c.meetAny x y) ∧ Keep (· = b) w w' := by
  unfold meetErr Ck.meetAny
  by_cases hg : (St.mk x y).good = true
  · rw [if_pos hg, if_pos hg]; exact meet_ok w b c hc h x y hg
  · rw [if_neg hg, if_neg hg]
    exact (meet_bad w b c hc h x y (Bool.eq_false_iff.2 hg)).mono fun _ _ ⟨h1, h2⟩ => ⟨h1, h.keep0 h2, h2.mono (fun _ h => h.elim)⟩
theorem rmeet_any (w : World) (b : Nat) (c : Ck) (hc : c.Ok) (h : IsCk w b 46 c) (x y : Int) :
    Calls Try.prog 14 #[.pointer (some ⟨b, 0, none⟩), .agg #[.int .i64 x, .int .i64 y]] w fun e w' => e = .returned (.int .i64 (meetErr x y)) ∧ IsCk w' b 46 (c.meetAny x y) ∧ Keep (· = b) w w' := by
  unfold meetErr Ck.meetAny
  by_cases hg : (St.mk x y).good = true
  · rw [if_pos hg, if_pos hg]; exact rmeet_ok w b c hc h x y hg
  · rw [if_neg hg, if_neg hg]
    exact (rmeet_bad w b x y (Bool.eq_false_iff.2 hg)).mono fun _ _ ⟨h1, h2⟩ => ⟨h1, h.keep0 h2, h2.mono (fun _ h => h.elim)⟩
theorem Ck.ok_meetAny {c : Ck} (h : c.Ok) (x y : Int) : (c.meetAny x y).Ok := by
  unfold Ck.meetAny; split
  · exact Ck.ok_meet h _
  · exact h
theorem Ck.told_meetAny (c : Ck) (x y : Int) : (c.meetAny x y).told = c.told := by unfold Ck.meetAny; split <;> rfl
/-- Both clocks are the same, and have told at most m; the call lies in block q; nothing that was there at w has turned. -/
def Both (w : World) (b r q : Nat) (z0 z1 z2 z3 : Int) (m : Int) (wc : World) : Prop := ∃ c : Ck, c.Ok ∧ c.told ≤ m ∧ IsCk wc b 56 c ∧ IsCk wc r 46 c ∧
  wc.heap[q]? = some (Obj.cells #[Value.int IntKind.i64 z0, Value.int IntKind.i64 z1, Value.int IntKind.i64 z2, Value.int IntKind.i64 z3] 32 (0, 0)) ∧ Keep (fun _ => False) w wc
set_option maxRecDepth 100000 in
set_option maxHeartbeats 2000000 in
theorem plays_walk (site n0 s0 : Int) (a : Option Addr) (len cap : Nat) (w : World) (hl : len ≤ maxLen) (ha : Acts w a len) :
    Calls Try.prog 4 #[.int .i64 site, .agg #[.int .i64 n0, .int .i64 s0], .slice a len cap] w fun e w' => e = .returned (.bool true) ∧ Below w.heap.size w w' := by
  unfold maxLen at hl
  by_cases hok : (site = 1 ∨ site = 2) ∧ (St.mk n0 s0).good = true
  · have HS := Lib.hid hok
    have HA := Lib.hid ha
    clear hok ha
    go_enter Try.func4, Try.ntmps4
    go_wp2_with fail
    generalize hwa : w.alloc (Obj.cells #[Value.int IntKind.i64 n0, Value.int IntKind.i64 s0] 29) = wa
    obtain ⟨p, hp⟩ : ∃ p, p = w.heap.size := ⟨_, rfl⟩
    rw [← hp]
    have P0 : Hid (IsSt wa p ⟨n0, s0⟩) := by rw [← hwa, hp]; exact heap_alloc_new w _
    have K0 : Hid (Keep (fun _ => False) w wa) := by rw [← hwa]; exact Keep.alloc _ _ _
    have HP := Lib.hid hp
    clear hwa hp
    refine (cnew_ok site n0 s0 HS.out.1 HS.out.2 _).mono ?_
    rintro e w1 ⟨b, hb, rfl, i1, k1⟩
    have I1 := Lib.hid i1
    have P1 := Lib.hid (P0.out.keep0 k1)
    have K1 := Lib.hid (K0.out.trans k1)
    have HB : Hid (w.heap.size ≤ b) := by have := K0.out.size; simp only [Hid]; omega
    obtain ⟨p1, p2, _, _⟩ := P1.out.cells
    dsimp only at p1 p2
    clear i1 k1 hb K0 P0
    go_wp2_with fail
    refine (rcnew_ok site n0 s0 HS.out.1 HS.out.2 _).mono ?_
    rintro e w2 ⟨r, hr, rfl, i2, k2⟩
    have J2 := Lib.hid i2
    have I2 := Lib.hid (I1.out.keep0 k2)
    have K2 := Lib.hid (K1.out.trans k2)
    have HBR : Hid (b < r) := by have := I1.out.lt; simp only [Hid]; omega
    have HR : Hid (w.heap.size ≤ r) := by have := HBR.out; have := HB.out; simp only [Hid]; omega
    clear i2 k2 hr I1 K1 P1 p1 p2
    by_cases hbig : 1000 < len
    · go_wp2_with (go_at_call 8; refine (lives_ok _).mono ?_; rintro e w4 ⟨rfl, hk4⟩; have HK4 := hk4; clear hk4)
      go_ret
      exact ⟨rfl, Keep.below (K2.out.trans HK4) (Nat.le_refl _) (fun _ h => h.elim)⟩
    · go_wp2_with fail
      go_loopw [11] (fun i wr => ∃ (k : Nat) (c : Ck), k ≤ len ∧ i = .int .i64 k ∧ c.Ok ∧ c.told ≤ k ∧ IsCk wr b 56 c ∧ IsCk wr r 46 c ∧ Keep (fun _ => False) w wr) (fun i _ => len - (intOf i).toNat)
      case atStart => exact ⟨0, ⟨site, ⟨n0, s0⟩, 0⟩, by omega, rfl, ⟨HS.out.1, HS.out.2, by dsimp only; omega, by dsimp only; omega⟩, by dsimp only; omega, I2.out, J2.out, K2.out⟩
      case round =>
        obtain ⟨k, c, hk, rfl, hc, hct, hi, hj, hkp⟩ := hrel
        have HC := Lib.hid hc
        have HT := Lib.hid hct
        have HI := Lib.hid hi
        have HJ := Lib.hid hj
        have HK := Lib.hid hkp
        have HAk := Lib.hid (HA.out.keep hkp)
        clear hc hct hi hj hkp I2 J2 K2
        by_cases hlt : k < len
        · obtain ⟨ab, ao, z0, z1, z2, z3, rfl, c0, c1, c2, c3⟩ := HAk.out k hlt
          have hp : (0 : Int) ≤ k := by omega
          have hlt' : (k : Int) < len := by omega
          go_upto_block 2 with fail
          generalize hwx : wr.alloc (Obj.cells #[Value.int IntKind.i64 z0, Value.int IntKind.i64 z1, Value.int IntKind.i64 z2, Value.int IntKind.i64 z3] 32) = wx
          obtain ⟨q, hq⟩ : ∃ q, q = wr.heap.size := ⟨_, rfl⟩
          rw [← hq]
          have HQ : Hid (wx.heap[q]? = some (Obj.cells #[Value.int IntKind.i64 z0, Value.int IntKind.i64 z1, Value.int IntKind.i64 z2, Value.int IntKind.i64 z3] 32 (0, 0))) := by rw [← hwx, hq]; exact heap_alloc_new wr _
          have kx : Keep (fun _ => False) wr wx := by rw [← hwx]; exact Keep.alloc _ _ _
          have HI1 := Lib.hid (HI.out.keep0 kx)
          have HJ1 := Lib.hid (HJ.out.keep0 kx)
          have HK1 := Lib.hid (HK.out.trans kx)
          have hqb : Hid (b < q ∧ r < q) := ⟨by rw [hq]; exact HI.out.lt, by rw [hq]; exact HJ.out.lt⟩
          clear hwx hq kx HI HJ HK HAk c0 c1 c2 c3
          go_cut [] (fun wc => Both w b r q z0 z1 z2 z3 (k + 1) wc)
          case first =>
            have d1 := cell_of HQ.out 1
            have d2 := cell_of HQ.out 2
            have d3 := cell_of HQ.out 3
            have lq := lt_of_block HQ.out
            simp at d1 d2 d3
            by_cases h0 : z0 = 0
            · have h1 : (z0 == 0) = true := by simpa using h0
              clear h0
              obtain ⟨⟨⟨x1, x2⟩, f⟩, hx⟩ : ∃ z, z = c.last.next z1 c.site := ⟨_, rfl⟩
              have HX := Lib.hid hx
              clear hx
              go_wp2_with fail
              refine (tick_ok _ b c HC.out HI1.out z1 x1 x2 f HX.out.symm).mono ?_
              rintro e w3 ⟨rfl, i3, k3⟩
              have hqb' := hqb.out
              have I3 := Lib.hid i3
              have J3 := Lib.hid (HJ1.out.keep k3 (by have := HBR.out; omega))
              have Q3 := Lib.hid (k3.heap HQ.out (by omega))
              have K3 := Lib.hid (HK1.out.step k3 (fun i hi => .inr (by have := HB.out; omega)))
              have d3 := cell_of Q3.out 1
              have l3 := lt_of_block Q3.out
              simp at d3
              clear i3 k3 d1 d2 lq hqb'
              go_wp2_with fail
              generalize hx4 : w3.alloc (Obj.cells #[Value.int IntKind.i64 x1, Value.int IntKind.i64 x2] 29) = w4
              obtain ⟨q4, hq4⟩ : ∃ q, q = w3.heap.size := ⟨_, rfl⟩
              rw [← hq4]
              have A4 : Hid (IsSt w4 q4 ⟨x1, x2⟩) := by rw [← hx4, hq4]; exact heap_alloc_new w3 _
              have k4 : Keep (fun _ => False) w3 w4 := by rw [← hx4]; exact Keep.alloc _ _ _
              have I4 := Lib.hid (I3.out.keep0 k4)
              have J4 := Lib.hid (J3.out.keep0 k4)
              have Q4 := Lib.hid (k4.heap Q3.out (fun h => h))
              have K4 := Lib.hid (K3.out.trans k4)
              have hrq4 : Hid (r < q4) := by rw [hq4]; exact J3.out.lt
              clear hx4 hq4 k4 I3 J3 K3 d3 l3 Q3
              refine (rtick_ok _ r c HC.out J4.out z1 x1 x2 f HX.out.symm).mono ?_
              rintro e w5 ⟨rfl, j5, k5⟩
              have hqb' := hqb.out
              have J5 := Lib.hid j5
              have I5 := Lib.hid (I4.out.keep k5 (by have := HBR.out; omega))
              have Q5 := Lib.hid (k5.heap Q4.out (by omega))
              have A5 := A4.out.keep k5 (by have := hrq4.out; omega)
              have K5 := Lib.hid (K4.out.step k5 (fun i hi => .inr (by have := HR.out; omega)))
              obtain ⟨a1, a2, _, _⟩ := A5.cells
              have la := A5.lt
              dsimp only at a1 a2
              clear j5 k5 A4 I4 J4 K4 A5 hqb' Q4
              go_wp2_with fail
              go_meet
              case rel => exact ⟨c.tick z1, Ck.ok_tick HC.out (by have := HT.out; omega) z1, by have := Ck.told_tick c z1; have := HT.out; omega, I5.out.keep0 (Keep.alloc _ _ _), J5.out.keep0 (Keep.alloc _ _ _), (Keep.alloc (fun _ => False) _ _).heap Q5.out (fun h => h), K5.out.allocR _⟩
            · have h1 : (z0 == 0) = false := by simpa using h0
              clear h0
              by_cases h0 : z0 = 1
              · have h2 : (z0 == 1) = true := by simpa using h0
                clear h0
                go_upto_region 16 with fail
                have hqb' := hqb.out
                have hbr' := HBR.out
                have n1 : ¬ q = b := by omega
                have n2 : ¬ q = r := by omega
                have n3 : ¬ r = b := by omega
                have n4 : ¬ b = r := by omega
                clear hqb' hbr' lq d1
                go_region_held3 (fun w' => w'.cell? ⟨q, 2, none⟩ = some (.int .i64 z2) ∧ w'.cell? ⟨q, 3, none⟩ = some (.int .i64 z3)) (first | exact ⟨d2, d3⟩ | exact ⟨e2, e3⟩ | exact ⟨f2, f3⟩) (first | (go_at_call 9; refine (meet_any _ b c HC.out (HI1.out.keep0 (Keep.drewN _ _ 1)) z2 z3).mono ?_; rintro e w3 ⟨rfl, i3, k3⟩; have e2 := k3.cellq n1 (show World.cell? (wx.drewN 1) _ = _ from d2); have e3 := k3.cellq n1 (show World.cell? (wx.drewN 1) _ = _ from d3); have I3 := Lib.hid i3; have J3 := Lib.hid ((HJ1.out.keep0 (Keep.drewN _ wx 1)).keep k3 n3); have Q3 := Lib.hid (k3.heap (show (wx.drewN 1).heap[q]? = _ from HQ.out) n1); have K3 := Lib.hid ((HK1.out.drewNR 1).step k3 (fun i hi => .inr (hi ▸ HB.out))); clear i3 k3) | (go_at_call 14; refine (rmeet_any _ r c HC.out J3.out z2 z3).mono ?_; rintro e w4 ⟨rfl, j4, k4⟩; have f2 := k4.cellq n2 e2; have f3 := k4.cellq n2 e3; have J4 := Lib.hid j4; have I4 := Lib.hid (I3.out.keep k4 n4); have Q4 := Lib.hid (k4.heap Q3.out n2); have K4 := Lib.hid (K3.out.step k4 (fun i hi => .inr (hi ▸ HR.out))); clear j4 k4))
                go_wp2_with fail
                go_meet
                case rel => exact ⟨c.meetAny z2 z3, Ck.ok_meetAny HC.out _ _, by rw [Ck.told_meetAny]; have := HT.out; omega, I4.out, J4.out, Q4.out, K4.out⟩
              · have h2 : (z0 == 1) = false := by simpa using h0
                clear h0
                go_wp2_with fail
                go_meet
                case rel => exact ⟨c, HC.out, by have := HT.out; omega, HI1.out, HJ1.out, HQ.out, HK1.out⟩
          case rest =>
            obtain ⟨y, hy, hyt, hyi, hyj, hyq, hyk⟩ := hcut
            obtain ⟨⟨⟨x1, x2⟩, f⟩, hx⟩ : ∃ z, z = y.last.next z1 y.site := ⟨_, rfl⟩
            have HX := Lib.hid hx
            have HY := Lib.hid hy
            have HYT := Lib.hid hyt
            have HYI := Lib.hid hyi
            have HYJ := Lib.hid hyj
            have HYQ := Lib.hid hyq
            have HYK := Lib.hid hyk
            have d1 := cell_of hyq 1
            simp at d1
            clear hx hy hyt hyi hyj hyq hyk HI1 HJ1 HK1 HQ
            go_wp2_with fail
            refine (peek_ok _ b y HY.out HYI.out z1 x1 x2 f HX.out.symm).mono ?_
            rintro e w3 ⟨rfl, k3⟩
            have I3 := Lib.hid (HYI.out.keep0 k3)
            have J3 := Lib.hid (HYJ.out.keep0 k3)
            have Q3 := Lib.hid (k3.heap HYQ.out (fun h => h))
            have K3 := Lib.hid (HYK.out.trans k3)
            have d3 := cell_of Q3.out 1
            have l3 := lt_of_block Q3.out
            simp at d3
            clear k3 HYI HYJ HYQ HYK d1
            go_wp2_with fail
            generalize hx4 : w3.alloc (Obj.cells #[Value.int IntKind.i64 x1, Value.int IntKind.i64 x2] 29) = w4
            obtain ⟨q4, hq4⟩ : ∃ q, q = w3.heap.size := ⟨_, rfl⟩
            rw [← hq4]
            have A4 : Hid (IsSt w4 q4 ⟨x1, x2⟩) := by rw [← hx4, hq4]; exact heap_alloc_new w3 _
            have k4 : Keep (fun _ => False) w3 w4 := by rw [← hx4]; exact Keep.alloc _ _ _
            have I4 := Lib.hid (I3.out.keep0 k4)
            have J4 := Lib.hid (J3.out.keep0 k4)
            have K4 := Lib.hid (K3.out.trans k4)
            clear hx4 hq4 k4 I3 J3 K3 d3 l3 Q3
            refine (rpeek_ok _ r y J4.out z1 x1 x2 f HX.out.symm).mono ?_
            rintro e w5 ⟨rfl, k5⟩
            have A5 := Lib.hid (A4.out.keep0 k5)
            have I5 := Lib.hid (I4.out.keep0 k5)
            have J5 := Lib.hid (J4.out.keep0 k5)
            have K5 := Lib.hid (K4.out.trans k5)
            clear k5 A4 I4 J4 K4
            go_upto_region 20 with fail
            generalize hx6 : w5.alloc (Obj.cells #[Value.int IntKind.i64 x1, Value.int IntKind.i64 x2] 29) = w6
            obtain ⟨q6, hq6⟩ : ∃ q, q = w5.heap.size := ⟨_, rfl⟩
            rw [← hq6]
            have C6 : Hid (IsSt w6 q6 ⟨x1, x2⟩) := by rw [← hx6, hq6]; exact heap_alloc_new w5 _
            have k6 : Keep (fun _ => False) w5 w6 := by rw [← hx6]; exact Keep.alloc _ _ _
            have A6 := Lib.hid (A5.out.keep0 k6)
            have I6 := Lib.hid (I5.out.keep0 k6)
            have J6 := Lib.hid (J5.out.keep0 k6)
            have K6 := Lib.hid (K5.out.trans k6)
            clear hx6 hq6 k6 A5 I5 J5 K5
            obtain ⟨a1, a2, _, _⟩ := A6.out.cells
            obtain ⟨b1, b2, _, _⟩ := C6.out.cells
            obtain ⟨j0, j1, j2, j3⟩ := J6.out.cells
            have la := A6.out.lt
            have lb := C6.out.lt
            have lj := J6.out.lt
            dsimp only at a1 a2 b1 b2
            have hRl := (Later.rules w6).1
            refine wp_region_later (by kernel_rfl) (by kernel_rfl) ?_
            repeat (refine wpQuiet_step (fun K hK => ?_); go_simp; first | (refine hK _ ?_; clear hK K) | (apply Exists.intro; refine ⟨fun _ => ?_, hK _ ?_⟩; (first | (go_at_call 17; exact Later.call (last_ok _ b y HY.out (I6.out.keep0 (Later.keep _)))) | (go_at_call 18; exact Later.call ((told_ok _ b y HY.out (I6.out.keep0 (Later.keep _))).mono fun _ _ h => ⟨h.1, h.2 ▸ Keep.refl _ _⟩))); clear hK K))
            refine wpQuiet_nil ?_
            intro _ hw'
            obtain ⟨g, hw''⟩ := hw'
            subst hw''
            have hg := g.keep
            have I7 := Lib.hid (I6.out.keep0 hg)
            have J7 := Lib.hid (J6.out.keep0 hg)
            have K7 := Lib.hid (K6.out.trans hg)
            clear hRl hg a1 a2 b1 b2 j0 j1 j2 j3 la lb lj
            go_wp2_with fail
            go_roundw
            case rel => exact ⟨k + 1, y, by omega, by go_num, HY.out, by have := HYT.out; omega, I7.out, J7.out, K7.out⟩
            case measure => simp [intOf] <;> omega
        · go_wp2_with (go_at_call 8; refine (lives_ok _).mono ?_; rintro e w4 ⟨rfl, hk4⟩; have HK4 := hk4; clear hk4)
          go_ret
          exact ⟨rfl, Keep.below (HK.out.trans HK4) (Nat.le_refl _) (fun _ h => h.elim)⟩
  · have HN := Lib.hid hok
    clear hok ha
    by_cases hbig : 1000 < len
    · go_enter Try.func4, Try.ntmps4
      go_wp2_with (first
        | (go_at_call 7; refine (cnew_bad site n0 s0 HN.out _).mono ?_; rintro e w1 ⟨rfl, hk1⟩; have HK1 := hk1; obtain ⟨hc1, _⟩ := hk1.rules; clear hk1)
        | (go_at_call 12; refine (rcnew_bad site n0 s0 HN.out _).mono ?_; rintro e w2 ⟨rfl, hk2⟩; have HK2 := hk2; clear hk2)
        | (go_at_call 8; refine (lives_ok _).mono ?_; rintro e w3 ⟨rfl, hk3⟩; have HK3 := hk3; clear hk3))
      go_ret
      exact ⟨rfl, Keep.below ((((Keep.alloc _ _ _).trans HK1).trans HK2).trans HK3) (Nat.le_refl _) (fun _ h => h.elim)⟩
    · go_enter Try.func4, Try.ntmps4
      go_wp2_with (first
        | (go_at_call 7; refine (cnew_bad site n0 s0 HN.out _).mono ?_; rintro e w1 ⟨rfl, hk1⟩; have HK1 := hk1; obtain ⟨hc1, _⟩ := hk1.rules; clear hk1)
        | (go_at_call 12; refine (rcnew_bad site n0 s0 HN.out _).mono ?_; rintro e w2 ⟨rfl, hk2⟩; have HK2 := hk2; clear hk2)
        | (go_at_call 8; refine (lives_ok _).mono ?_; rintro e w3 ⟨rfl, hk3⟩; have HK3 := hk3; clear hk3))
      refine wp_loop_rounds 1 ?_
      rw [rounds_succ]
      go_wp2_with (go_at_call 8; refine (lives_ok _).mono ?_; rintro e w3 ⟨rfl, hk3⟩; have HK3 := hk3; clear hk3)
      go_ret
      exact ⟨rfl, Keep.below ((((Keep.alloc _ _ _).trans HK1).trans HK2).trans HK3) (Nat.le_refl _) (fun _ h => h.elim)⟩
end Go.Proofs.Ytcadamdlfelocaa
