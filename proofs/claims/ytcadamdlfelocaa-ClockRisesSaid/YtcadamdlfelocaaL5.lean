/- The walk of ClockRises: it returns true and turns nothing that was there. -/
import Derived.Test.YtcadamdlfelocaaL4
namespace Go.Proofs.Ytcadamdlfelocaa
open Go.RowKit
theorem umod (a m : Int) (hm : 0 < m) : ∃ q, (IntKind.u64.wrap a).tmod m = q ∧ 0 ≤ q ∧ q < m := by
  have h : 0 ≤ IntKind.u64.wrap a := by unfold IntKind.wrap; simp [IntKind.signed, IntKind.bits]; omega
  exact ⟨_, rfl, Int.tmod_nonneg _ h, Int.tmod_lt_of_pos _ hm⟩
theorem next_facts {c : Ck} (h : c.Ok) {now x y f : Int} (hx : c.last.next now c.site = (⟨x, y⟩, f)) :
    (f = 0 ∧ y = c.site ∧ c.last.less ⟨x, y⟩ = true ∧ min now 1099511627776 ≤ x) ∨ (f = 50 ∧ 281474976710656 ≤ c.last.n) := by
  unfold St.next at hx
  rw [if_pos ⟨h.s, h.l⟩] at hx
  by_cases h2 : c.last.nextN now ≤ 281474976710656
  · rw [if_pos h2] at hx
    simp only [Prod.mk.injEq, St.mk.injEq] at hx
    obtain ⟨⟨h3, h4⟩, h5⟩ := hx
    refine .inl ⟨h5.symm, h4.symm, ?_, ?_⟩
    · simp only [St.less, decide_eq_true_eq]; unfold St.nextN at h3; omega
    · unfold St.nextN at h3; omega
  · rw [if_neg h2] at hx
    simp only [Prod.mk.injEq, St.mk.injEq] at hx
    unfold St.nextN at h2
    exact .inr ⟨hx.2.symm, by omega⟩
set_option maxRecDepth 100000 in
set_option maxHeartbeats 2000000 in
theorem rises_walk (site0 : Int) (a : Option Addr) (len cap : Nat) (w : World) (hl : len ≤ maxLen) (ha : Acts w a len) :
    Calls Try.prog 3 #[.int .i64 site0, .slice a len cap] w fun e w' => e = .returned (.bool true) ∧ Below w.heap.size w w' := by
  unfold maxLen at hl
  obtain ⟨q0, e0, p0, r0⟩ := umod site0 2 (by omega)
  have HS : Hid (1 + q0 = 1 ∨ 1 + q0 = 2) := by simp only [Hid]; omega
  have HA := Lib.hid ha
  clear ha
  go_enter Try.func3, Try.ntmps3
  go_wp2_with fail
  refine (cnew_ok (1 + q0) 0 0 HS.out rfl _).mono ?_
  rintro e w1 ⟨b, hb, rfl, i1, k1⟩
  have I1 := Lib.hid i1
  have K1 := Lib.hid k1
  have HB := Lib.hid hb
  clear i1 k1 hb
  by_cases hbig : 1000 < len
  · go_wp2_with (go_at_call 8; refine (lives_ok _).mono ?_; rintro e w4 ⟨rfl, hk4⟩; have HK4 := hk4; clear hk4)
    go_ret
    exact ⟨rfl, Keep.below (K1.out.trans HK4) (Nat.le_refl _) (fun _ h => h.elim)⟩
  · go_wp2_with fail
    generalize hwa : w1.alloc (Obj.cells #[Value.int IntKind.i64 0, Value.int IntKind.i64 0] 29) = wa
    obtain ⟨m, hm⟩ : ∃ m, m = w1.heap.size := ⟨_, rfl⟩
    rw [← hm]
    have M0 : Hid (IsSt wa m ⟨0, 0⟩) := by rw [← hwa, hm]; exact heap_alloc_new w1 _
    have ka : Keep (fun _ => False) w1 wa := by rw [← hwa]; exact Keep.alloc _ _ _
    have I2 := Lib.hid (I1.out.keep0 ka)
    have K2 := Lib.hid (K1.out.trans ka)
    have HBM : Hid (b < m) := by rw [hm]; exact I1.out.lt
    have HM : Hid (w.heap.size ≤ m) := by have := HBM.out; have := HB.out; simp only [Hid]; omega
    clear hwa hm ka I1 K1
    go_loopw [47] (fun i wr => ∃ (k : Nat) (c : Ck), k ≤ len ∧ i = .int .i64 k ∧ c.Ok ∧ c.site = 1 + q0 ∧ c.told ≤ k ∧ IsCk wr b 56 c ∧ IsSt wr m c.last ∧ Keep (fun _ => False) w wr) (fun i _ => len - (intOf i).toNat)
    case atStart => exact ⟨0, ⟨1 + q0, ⟨0, 0⟩, 0⟩, by omega, rfl, ⟨HS.out, rfl, by dsimp only; omega, by dsimp only; omega⟩, rfl, by dsimp only; omega, I2.out, M0.out, K2.out⟩
    case round =>
      obtain ⟨k, c, hk, rfl, hc, hcs, hct, hi, hst, hkp⟩ := hrel
      have HC := Lib.hid hc
      have HT := Lib.hid hct
      have HCS := Lib.hid hcs
      have HI := Lib.hid hi
      have HSt := Lib.hid hst
      have HK := Lib.hid hkp
      have HAk := Lib.hid (HA.out.keep hkp)
      clear hc hct hi hst hkp hcs I2 M0 K2
      by_cases hlt : k < len
      · obtain ⟨ab, ao, z0, z1, z2, z3, rfl, c0, c1, c2, c3⟩ := HAk.out k hlt
        have hp : (0 : Int) ≤ k := by omega
        have hlt' : (k : Int) < len := by omega
        go_upto_if 53 with fail
        generalize hwx : wr.alloc (Obj.cells #[Value.int IntKind.i64 z0, Value.int IntKind.i64 z1, Value.int IntKind.i64 z2, Value.int IntKind.i64 z3] 32) = wx
        obtain ⟨q, hq⟩ : ∃ q, q = wr.heap.size := ⟨_, rfl⟩
        rw [← hq]
        have HQ : Hid (wx.heap[q]? = some (Obj.cells #[Value.int IntKind.i64 z0, Value.int IntKind.i64 z1, Value.int IntKind.i64 z2, Value.int IntKind.i64 z3] 32 (0, 0))) := by rw [← hwx, hq]; exact heap_alloc_new wr _
        have kx : Keep (fun _ => False) wr wx := by rw [← hwx]; exact Keep.alloc _ _ _
        have HI1 := Lib.hid (HI.out.keep0 kx)
        have HM1 := Lib.hid (HSt.out.keep0 kx)
        have HK1 := Lib.hid (HK.out.trans kx)
        have hqb : Hid (b < q ∧ m < q) := ⟨by rw [hq]; exact HI.out.lt, by rw [hq]; exact HSt.out.lt⟩
        clear hwx hq kx HI HSt HK HAk c0 c1 c2 c3
        have d1 := cell_of HQ.out 1
        have d2 := cell_of HQ.out 2
        have d3 := cell_of HQ.out 3
        have lq := lt_of_block HQ.out
        simp at d1 d2 d3
        have hqb' := hqb.out
        have hbm' := HBM.out
        have n1 : ¬ q = b := by omega
        have n2 : ¬ m = b := by omega
        have n3 : ¬ b = m := by omega
        have n4 : ¬ q = m := by omega
        clear hqb' hbm'
        by_cases h0 : z0 = 1
        · have h1 : (z0 == 1) = true := by simpa using h0
          clear h0
          obtain ⟨lm1, lm2, _, _⟩ := HM1.out.cells
          by_cases hg : (St.mk z2 z3).good = true
          · by_cases hle : (St.mk c.last.n c.last.s).less ⟨z2, z3⟩ = true
            · have HG := Lib.hid hg
              have HE := Lib.hid hle
              have hme : Hid (c.meet ⟨z2, z3⟩ = ⟨c.site, ⟨z2, z3⟩, c.told⟩) := by unfold Ck.meet St.later; rw [if_pos ⟨hg, hle⟩]; rfl
              clear hg hle
              go_wp2_with (first
                | (go_at_call 9; refine (meet_ok _ b c HC.out HI1.out z2 z3 HG.out).mono ?_; rintro e w3 ⟨rfl, i3, k3⟩; have I3 := Lib.hid (hme.out ▸ i3); have M3 := Lib.hid (HM1.out.keep k3 n2); have e2 := k3.cellq n1 d2; have e3 := k3.cellq n1 d3; have K3 := Lib.hid (HK1.out.step k3 (fun i hi => .inr (hi ▸ HB.out))); obtain ⟨u1, u2, _, _⟩ := M3.out.cells; clear i3 k3)
                | (go_at_call 10; refine (less_yes _ _ _ _ HE.out _).mono ?_; rintro e w4 ⟨rfl, k4⟩; have I4 := Lib.hid (I3.out.keep0 k4); have M4 := Lib.hid (M3.out.keep0 k4); have f2 := k4.cellq (fun h => h) e2; have f3 := k4.cellq (fun h => h) e3; have K4 := Lib.hid (K3.out.trans k4); obtain ⟨v1, v2, v3, v4⟩ := M4.out.cells; clear k4))
              go_roundw
              case rel => exact ⟨k + 1, ⟨c.site, ⟨z2, z3⟩, c.told⟩, by omega, by go_num, hme.out ▸ Ck.ok_meet HC.out ⟨z2, z3⟩, HCS.out, by have := HT.out; dsimp only; omega, (I4.out.keep (Keep.setCell (S := (· = m)) _ _ rfl) n3).keep (Keep.setCell (S := (· = m)) _ _ rfl) n3, M4.out.set z2 z3, (K4.out.step (Keep.setCell (S := (· = m)) _ _ rfl) (fun i hi => .inr (hi ▸ HM.out))).step (Keep.setCell (S := (· = m)) _ _ rfl) (fun i hi => .inr (hi ▸ HM.out))⟩
              case measure => simp [intOf] <;> omega
            · have HG := Lib.hid hg
              have HE : Hid ((St.mk c.last.n c.last.s).less ⟨z2, z3⟩ = false) := Bool.eq_false_iff.2 hle
              have hme : Hid (c.meet ⟨z2, z3⟩ = c) := by unfold Ck.meet St.later; rw [if_neg (fun h => hle h.2)]; rfl
              clear hg hle
              go_wp2_with (first
                | (go_at_call 9; refine (meet_ok _ b c HC.out HI1.out z2 z3 HG.out).mono ?_; rintro e w3 ⟨rfl, i3, k3⟩; have I3 := Lib.hid (hme.out ▸ i3); have M3 := Lib.hid (HM1.out.keep k3 n2); have e2 := k3.cellq n1 d2; have e3 := k3.cellq n1 d3; have K3 := Lib.hid (HK1.out.step k3 (fun i hi => .inr (hi ▸ HB.out))); obtain ⟨u1, u2, _, _⟩ := M3.out.cells; clear i3 k3)
                | (go_at_call 10; refine (less_no _ _ _ _ HE.out _).mono ?_; rintro e w4 ⟨rfl, k4⟩; have I4 := Lib.hid (I3.out.keep0 k4); have M4 := Lib.hid (M3.out.keep0 k4); have K4 := Lib.hid (K3.out.trans k4); clear k4))
              go_roundw
              case rel => exact ⟨k + 1, c, by omega, by go_num, HC.out, HCS.out, by have := HT.out; omega, I4.out, M4.out, K4.out⟩
              case measure => simp [intOf] <;> omega
          · have HG : Hid ((St.mk z2 z3).good = false) := Bool.eq_false_iff.2 hg
            clear hg
            go_wp2_with (go_at_call 9; refine (meet_bad _ b c HC.out HI1.out z2 z3 HG.out).mono ?_; rintro e w3 ⟨rfl, k3⟩; have I3 := Lib.hid (HI1.out.keep0 k3); have M3 := Lib.hid (HM1.out.keep0 k3); have K3 := Lib.hid (HK1.out.trans k3); clear k3)
            go_roundw
            case rel => exact ⟨k + 1, c, by omega, by go_num, HC.out, HCS.out, by have := HT.out; omega, I3.out, M3.out, K3.out⟩
            case measure => simp [intOf] <;> omega
        · have h1 : (z0 == 1) = false := by simpa using h0
          clear h0
          obtain ⟨⟨⟨x1, x2⟩, f⟩, hx⟩ : ∃ z, z = c.last.next z1 c.site := ⟨_, rfl⟩
          have hnf := next_facts HC.out hx.symm
          have HX := Lib.hid hx
          clear hx
          go_wp2_with fail
          refine (tick_ok _ b c HC.out HI1.out z1 x1 x2 f HX.out.symm).mono ?_
          rintro e w3 ⟨rfl, i3, k3⟩
          have I3 := Lib.hid i3
          have M3 := Lib.hid (HM1.out.keep k3 n2)
          have Q3 := Lib.hid (k3.heap HQ.out n1)
          have K3 := Lib.hid (HK1.out.step k3 (fun i hi => .inr (hi ▸ HB.out)))
          have OT := Lib.hid (Ck.ok_tick HC.out (by have := HT.out; omega) z1)
          have TT := Ck.told_tick c z1
          clear i3 k3 d1 d2 d3 lq HI1 HM1
          go_upto_if 75 with fail
          generalize hx4 : w3.alloc (Obj.cells #[Value.int IntKind.i64 x1, Value.int IntKind.i64 x2] 29) = w4
          obtain ⟨q4, hq4⟩ : ∃ q, q = w3.heap.size := ⟨_, rfl⟩
          rw [← hq4]
          have A4 : Hid (IsSt w4 q4 ⟨x1, x2⟩) := by rw [← hx4, hq4]; exact heap_alloc_new w3 _
          have k4 : Keep (fun _ => False) w3 w4 := by rw [← hx4]; exact Keep.alloc _ _ _
          have I4 := Lib.hid (I3.out.keep0 k4)
          have M4 := Lib.hid (M3.out.keep0 k4)
          have Q4 := Lib.hid (k4.heap Q3.out (fun h => h))
          have K4 := Lib.hid (K3.out.trans k4)
          have hn5 : Hid (¬ q4 = m ∧ ¬ q4 = q) := by have := M3.out.lt; have := lt_of_block Q3.out; simp only [Hid]; omega
          clear hx4 hq4 k4 I3 M3 K3 Q3
          obtain ⟨m1, m2, m3, m4⟩ := M4.out.cells
          rcases hnf with ⟨rfl, rfl, hless, hmin⟩ | ⟨rfl, hbig2⟩
          · have TE : Hid (c.tick z1 = ⟨c.site, ⟨x1, c.site⟩, c.told + 1⟩) := by unfold Ck.tick; rw [← HX.out]; rfl
            have hsne : (c.site != 1 + q0) = false := by have := HCS.out; simp; omega
            have HE := Lib.hid hless
            obtain ⟨M, hM, hM2⟩ : ∃ M, (if 1099511627776 < z1 then 1099511627776 else z1) = M ∧ M = min z1 1099511627776 := ⟨_, rfl, by omega⟩
            have hMx : M ≤ x1 := by omega
            obtain ⟨a1, a2, _, _⟩ := A4.out.cells
            have g1 := cell_of Q4.out 1
            simp at g1
            dsimp only at a1 a2
            obtain ⟨n5, n6⟩ := hn5.out
            clear hless hM2 hmin
            go_wp2_with (go_at_call 10; refine (less_yes _ _ _ _ HE.out _).mono ?_; rintro e w5 ⟨rfl, k5⟩; have I5 := Lib.hid (I4.out.keep0 k5); have M5 := Lib.hid (M4.out.keep0 k5); have b1 := k5.cellq (fun h => h) a1; have b2 := k5.cellq (fun h => h) a2; have b3 := k5.cellq (fun h => h) g1; have K5 := Lib.hid (K4.out.trans k5); obtain ⟨v1, v2, v3, v4⟩ := M5.out.cells; clear k5)
            go_roundw
            case rel => exact ⟨k + 1, ⟨c.site, ⟨x1, c.site⟩, c.told + 1⟩, by omega, by go_num, TE.out ▸ OT.out, HCS.out, by have := HT.out; dsimp only; omega, by have hi5 := I5.out; rw [TE.out] at hi5; exact (hi5.keep (Keep.setCell (S := (· = m)) _ _ rfl) n3).keep (Keep.setCell (S := (· = m)) _ _ rfl) n3, M5.out.set x1 c.site, (K5.out.step (Keep.setCell (S := (· = m)) _ _ rfl) (fun i hi => .inr (hi ▸ HM.out))).step (Keep.setCell (S := (· = m)) _ _ rfl) (fun i hi => .inr (hi ▸ HM.out))⟩
            case measure => simp [intOf] <;> omega
          · have TE : Hid (c.tick z1 = c) := by unfold Ck.tick; rw [← HX.out]; rfl
            go_wp2_with fail
            go_roundw
            case rel => exact ⟨k + 1, c, by omega, by go_num, HC.out, HCS.out, by have := HT.out; omega, by have := I4.out; rw [TE.out] at this; exact this, M4.out, K4.out⟩
            case measure => simp [intOf] <;> omega
      · go_wp2_with (go_at_call 8; refine (lives_ok _).mono ?_; rintro e w4 ⟨rfl, hk4⟩; have HK4 := hk4; clear hk4)
        go_ret
        exact ⟨rfl, Keep.below (HK.out.trans HK4) (Nat.le_refl _) (fun _ h => h.elim)⟩
end Go.Proofs.Ytcadamdlfelocaa
