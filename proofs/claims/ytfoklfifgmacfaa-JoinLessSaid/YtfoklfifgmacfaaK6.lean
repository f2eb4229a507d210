/- Which cells may be, walked. -/
import Derived.Test.YtfoklfifgmacfaaK5
namespace Go.Proofs.Ytfoklfifgmacfaa
open Go.RowKit
set_option maxHeartbeats 4000000 in
theorem good_any (p n s v0 v1 : Int) (g : Bool) (t : ByteArray) (d0 d1 : Int) (w : World) :
    Calls Try.prog 16 #[.int .i64 p, .agg #[.int .i64 n, .int .i64 s, .int .i64 v0, .int .i64 v1, .bool g, .string t, .int .i64 d0, .int .i64 d1]] w fun e w' => e = .returned (.bool (C.good p ⟨n, s, v0, v1, g, t, d0, d1⟩)) ∧ Keep (fun _ => False) w w' := by
  have HW : Hid (∀ w, Calls Try.prog 29 #[.agg #[.int .i64 n, .int .i64 s, .int .i64 v0, .int .i64 v1, .bool g, .string t, .int .i64 d0, .int .i64 d1]] w fun e w' => e = .returned (.bool (C.written ⟨n, s, v0, v1, g, t, d0, d1⟩)) ∧ Keep (fun _ => False) w w') := fun w => written_any n s v0 v1 g t d0 d1 w
  have HS : Hid (∀ w, Calls Try.prog 30 #[.agg #[.int .i64 n, .int .i64 s]] w fun e w' => e = .returned (.bool (sgood n s)) ∧ Keep (fun _ => False) w w') := fun w => sgood_any n s w
  have HV : Hid (∀ w, Calls Try.prog 28 #[.agg #[.int .i64 v0, .int .i64 v1]] w fun e w' => e = .returned (.bool (vgood v0 v1)) ∧ Keep (fun _ => False) w w') := fun w => vgood_any v0 v1 w
  have HD : Hid (∀ w, Calls Try.prog 28 #[.agg #[.int .i64 d0, .int .i64 d1]] w fun e w' => e = .returned (.bool (vgood d0 d1)) ∧ Keep (fun _ => False) w w') := fun w => vgood_any d0 d1 w
  obtain ⟨r, hr⟩ : ∃ r, r = C.good p ⟨n, s, v0, v1, g, t, d0, d1⟩ := ⟨_, rfl⟩
  rw [← hr]
  unfold C.good C.fair at hr
  dsimp only at hr
  generalize C.written ⟨n, s, v0, v1, g, t, d0, d1⟩ = bw at *
  generalize sgood n s = bs at *
  generalize vgood v0 v1 = bv at *
  generalize hbd : vgood d0 d1 = bd at *
  have H25 := fun w => equalIn25 9998 d0 d1 0 0 w
  generalize hb0 : decide (d0 = 0 ∧ d1 = 0) = b0 at *
  have hr' : Hid (r = (if p = 1 then (if b0 = true then (!bw || (decide (0 < n) && bs && bv && decide (t.size ≤ 64) && !(g && !decide (t = ⟨#[]⟩)))) else false) else if p = 2 then (if g = true then false else if bd = true then (!bw || (decide (0 < n) && bs && bv && decide (t.size ≤ 64) && !(g && !decide (t = ⟨#[]⟩)))) else false) else false)) := by
    rw [Hid, hr, ← hb0]
    simp only [decide_eq_true_eq]
  clear hr hb0 hbd
  have ht : Hid ((t.toList == (⟨#[]⟩ : ByteArray).toList) = decide (t = ⟨#[]⟩)) := by
    by_cases h : t = ⟨#[]⟩
    · rw [Hid, h]; simp
    · rw [Hid, str_neq h]; simp [h]
  have ht3 : Hid (t.toList.isEmpty = decide (t = ⟨#[]⟩)) := by
    by_cases h : t = ⟨#[]⟩
    · rw [Hid, h]; simp
    · have : t.toList ≠ [] := fun e => h (bytes_ext (by rw [e]; simp))
      rw [Hid]; simp [h, this]
  have ht4 : Hid ((t.toList = []) ↔ decide (t = ⟨#[]⟩) = true) := by
    have := ht3.out
    rw [← List.isEmpty_iff, this, Hid]
  generalize decide (t = ⟨#[]⟩) = bt at *
  have ht2 := ht.out
  go_enter Try.func16, Try.ntmps16
  go_upto_region 1 with fail
  obtain ⟨b, hb⟩ : ∃ b, b = w.heap.size := ⟨_, rfl⟩
  rw [← hb]
  generalize hwa : w.alloc (Obj.cells #[.int .i64 n, .int .i64 s, .int .i64 v0, .int .i64 v1, .bool g, .string t, .int .i64 d0, .int .i64 d1] 27) = wa
  have H0 : Hid (IsC wa b ⟨n, s, v0, v1, g, t, d0, d1⟩) := by rw [← hwa, hb]; exact IsC.new w ⟨n, s, v0, v1, g, t, d0, d1⟩
  have K0 : Hid (Keep (fun _ => False) w wa) := by rw [← hwa]; exact Keep.alloc _ _ _
  clear hb hwa
  obtain ⟨c0, c1, c2, c3, c4, c5, c6, c7⟩ := H0.out.cells
  dsimp only at c0 c1 c2 c3 c4 c5 c6 c7
  by_cases h1 : p = 1
  · subst h1
    cases b0
    · go_wp2_with fail
      all_goals
        go_ret
        refine ⟨ret_bool (hr'.out.trans ?_).symm, K0.out⟩
        have ht3' := ht3.out
        have ht4' := ht4.out
        first | (simp [*]; done) | (simp [*] <;> omega) | (simp at * <;> omega) | (simp at * <;> simp [*] <;> omega)
    · skip
      cases bw
      · go_wp2_with (first | (go_at_call 29; refine (HW.out _).mono ?_; rintro e w2 ⟨rfl, hk⟩; have J2 := Lib.hid (H0.out.keep0 hk); have KK2 := Lib.hid (K0.out.trans hk); clear hk c0 c1 c2 c3 c4 c5 c6 c7; obtain ⟨c0, c1, c2, c3, c4, c5, c6, c7⟩ := J2.out.cells; dsimp only at c0 c1 c2 c3 c4 c5 c6 c7) | (go_at_call 30; refine (HS.out _).mono ?_; rintro e w3 ⟨rfl, hk⟩; have J3 := Lib.hid (J2.out.keep0 hk); have KK3 := Lib.hid (KK2.out.trans hk); clear hk c0 c1 c2 c3 c4 c5 c6 c7; obtain ⟨c0, c1, c2, c3, c4, c5, c6, c7⟩ := J3.out.cells; dsimp only at c0 c1 c2 c3 c4 c5 c6 c7) | (go_at_call 28; refine (HV.out _).mono ?_; rintro e w4 ⟨rfl, hk⟩; have J4 := Lib.hid (J3.out.keep0 hk); have KK4 := Lib.hid (KK3.out.trans hk); clear hk c0 c1 c2 c3 c4 c5 c6 c7; obtain ⟨c0, c1, c2, c3, c4, c5, c6, c7⟩ := J4.out.cells; dsimp only at c0 c1 c2 c3 c4 c5 c6 c7))
        all_goals
          go_ret
          refine ⟨ret_bool (hr'.out.trans ?_).symm, by first | exact KK4.out | exact KK3.out | exact KK2.out⟩
          have ht3' := ht3.out
          have ht4' := ht4.out
          first | (simp [*]; done) | (simp [*] <;> omega) | (simp at * <;> omega) | (simp at * <;> simp [*] <;> omega)
      · cases bs
        · go_wp2_with (first | (go_at_call 29; refine (HW.out _).mono ?_; rintro e w2 ⟨rfl, hk⟩; have J2 := Lib.hid (H0.out.keep0 hk); have KK2 := Lib.hid (K0.out.trans hk); clear hk c0 c1 c2 c3 c4 c5 c6 c7; obtain ⟨c0, c1, c2, c3, c4, c5, c6, c7⟩ := J2.out.cells; dsimp only at c0 c1 c2 c3 c4 c5 c6 c7) | (go_at_call 30; refine (HS.out _).mono ?_; rintro e w3 ⟨rfl, hk⟩; have J3 := Lib.hid (J2.out.keep0 hk); have KK3 := Lib.hid (KK2.out.trans hk); clear hk c0 c1 c2 c3 c4 c5 c6 c7; obtain ⟨c0, c1, c2, c3, c4, c5, c6, c7⟩ := J3.out.cells; dsimp only at c0 c1 c2 c3 c4 c5 c6 c7) | (go_at_call 28; refine (HV.out _).mono ?_; rintro e w4 ⟨rfl, hk⟩; have J4 := Lib.hid (J3.out.keep0 hk); have KK4 := Lib.hid (KK3.out.trans hk); clear hk c0 c1 c2 c3 c4 c5 c6 c7; obtain ⟨c0, c1, c2, c3, c4, c5, c6, c7⟩ := J4.out.cells; dsimp only at c0 c1 c2 c3 c4 c5 c6 c7))
          all_goals
            go_ret
            refine ⟨ret_bool (hr'.out.trans ?_).symm, by first | exact KK4.out | exact KK3.out | exact KK2.out⟩
            have ht3' := ht3.out
            have ht4' := ht4.out
            first | (simp [*]; done) | (simp [*] <;> omega) | (simp at * <;> omega) | (simp at * <;> simp [*] <;> omega)
        · cases bv
          · go_wp2_with (first | (go_at_call 29; refine (HW.out _).mono ?_; rintro e w2 ⟨rfl, hk⟩; have J2 := Lib.hid (H0.out.keep0 hk); have KK2 := Lib.hid (K0.out.trans hk); clear hk c0 c1 c2 c3 c4 c5 c6 c7; obtain ⟨c0, c1, c2, c3, c4, c5, c6, c7⟩ := J2.out.cells; dsimp only at c0 c1 c2 c3 c4 c5 c6 c7) | (go_at_call 30; refine (HS.out _).mono ?_; rintro e w3 ⟨rfl, hk⟩; have J3 := Lib.hid (J2.out.keep0 hk); have KK3 := Lib.hid (KK2.out.trans hk); clear hk c0 c1 c2 c3 c4 c5 c6 c7; obtain ⟨c0, c1, c2, c3, c4, c5, c6, c7⟩ := J3.out.cells; dsimp only at c0 c1 c2 c3 c4 c5 c6 c7) | (go_at_call 28; refine (HV.out _).mono ?_; rintro e w4 ⟨rfl, hk⟩; have J4 := Lib.hid (J3.out.keep0 hk); have KK4 := Lib.hid (KK3.out.trans hk); clear hk c0 c1 c2 c3 c4 c5 c6 c7; obtain ⟨c0, c1, c2, c3, c4, c5, c6, c7⟩ := J4.out.cells; dsimp only at c0 c1 c2 c3 c4 c5 c6 c7))
            all_goals
              go_ret
              refine ⟨ret_bool (hr'.out.trans ?_).symm, by first | exact KK4.out | exact KK3.out | exact KK2.out⟩
              have ht3' := ht3.out
              have ht4' := ht4.out
              first | (simp [*]; done) | (simp [*] <;> omega) | (simp at * <;> omega) | (simp at * <;> simp [*] <;> omega)
          · cases g <;> cases bt
            all_goals
              go_wp2_with (first | (go_at_call 29; refine (HW.out _).mono ?_; rintro e w2 ⟨rfl, hk⟩; have J2 := Lib.hid (H0.out.keep0 hk); have KK2 := Lib.hid (K0.out.trans hk); clear hk c0 c1 c2 c3 c4 c5 c6 c7; obtain ⟨c0, c1, c2, c3, c4, c5, c6, c7⟩ := J2.out.cells; dsimp only at c0 c1 c2 c3 c4 c5 c6 c7) | (go_at_call 30; refine (HS.out _).mono ?_; rintro e w3 ⟨rfl, hk⟩; have J3 := Lib.hid (J2.out.keep0 hk); have KK3 := Lib.hid (KK2.out.trans hk); clear hk c0 c1 c2 c3 c4 c5 c6 c7; obtain ⟨c0, c1, c2, c3, c4, c5, c6, c7⟩ := J3.out.cells; dsimp only at c0 c1 c2 c3 c4 c5 c6 c7) | (go_at_call 28; refine (HV.out _).mono ?_; rintro e w4 ⟨rfl, hk⟩; have J4 := Lib.hid (J3.out.keep0 hk); have KK4 := Lib.hid (KK3.out.trans hk); clear hk c0 c1 c2 c3 c4 c5 c6 c7; obtain ⟨c0, c1, c2, c3, c4, c5, c6, c7⟩ := J4.out.cells; dsimp only at c0 c1 c2 c3 c4 c5 c6 c7))
              all_goals
                go_ret
                refine ⟨ret_bool (hr'.out.trans ?_).symm, by first | exact KK4.out | exact KK3.out | exact KK2.out⟩
                have ht3' := ht3.out
                have ht4' := ht4.out
                first | (simp [*]; done) | (simp [*] <;> omega) | (simp at * <;> omega) | (simp at * <;> simp [*] <;> omega)
  · have e1 : (p == 1) = false := by simpa using h1
    by_cases h2 : p = 2
    · subst h2
      by_cases hg : g = true
      · subst hg
        go_wp2_with fail
        all_goals
          go_ret
          refine ⟨ret_bool (hr'.out.trans ?_).symm, K0.out⟩
          have ht3' := ht3.out
          have ht4' := ht4.out
          first | (simp [*]; done) | (simp [*] <;> omega) | (simp at * <;> omega) | (simp at * <;> simp [*] <;> omega)
      · have hg' : g = false := by simpa using hg
        subst hg'
        cases bd
        · go_wp2_with (go_at_call 28; refine (HD.out _).mono ?_; rintro e w1 ⟨rfl, hk⟩; have J1 := Lib.hid (H0.out.keep0 hk); have KK1 := Lib.hid (K0.out.trans hk); clear hk c0 c1 c2 c3 c4 c5 c6 c7; obtain ⟨c0, c1, c2, c3, c4, c5, c6, c7⟩ := J1.out.cells; dsimp only at c0 c1 c2 c3 c4 c5 c6 c7)
          all_goals
            go_ret
            refine ⟨ret_bool (hr'.out.trans ?_).symm, KK1.out⟩
            have ht3' := ht3.out
            have ht4' := ht4.out
            first | (simp [*]; done) | (simp [*] <;> omega) | (simp at * <;> omega) | (simp at * <;> simp [*] <;> omega)
        · obtain ⟨g, hgg⟩ : ∃ g, g = false := ⟨_, rfl⟩
          cases bw
          · go_wp2_with (first | (go_at_call_of 28 (Value.agg #[Value.int IntKind.i64 d0, Value.int IntKind.i64 d1]); refine (HD.out _).mono ?_; rintro e w1 ⟨rfl, hk⟩; have J1 := Lib.hid (H0.out.keep0 hk); have KK1 := Lib.hid (K0.out.trans hk); clear hk c0 c1 c2 c3 c4 c5 c6 c7; obtain ⟨c0, c1, c2, c3, c4, c5, c6, c7⟩ := J1.out.cells; dsimp only at c0 c1 c2 c3 c4 c5 c6 c7) | (go_at_call 29; refine (HW.out _).mono ?_; rintro e w2 ⟨rfl, hk⟩; have J2 := Lib.hid (J1.out.keep0 hk); have KK2 := Lib.hid (KK1.out.trans hk); clear hk c0 c1 c2 c3 c4 c5 c6 c7; obtain ⟨c0, c1, c2, c3, c4, c5, c6, c7⟩ := J2.out.cells; dsimp only at c0 c1 c2 c3 c4 c5 c6 c7) | (go_at_call 30; refine (HS.out _).mono ?_; rintro e w3 ⟨rfl, hk⟩; have J3 := Lib.hid (J2.out.keep0 hk); have KK3 := Lib.hid (KK2.out.trans hk); clear hk c0 c1 c2 c3 c4 c5 c6 c7; obtain ⟨c0, c1, c2, c3, c4, c5, c6, c7⟩ := J3.out.cells; dsimp only at c0 c1 c2 c3 c4 c5 c6 c7) | (go_at_call_of 28 (Value.agg #[Value.int IntKind.i64 v0, Value.int IntKind.i64 v1]); refine (HV.out _).mono ?_; rintro e w4 ⟨rfl, hk⟩; have J4 := Lib.hid (J3.out.keep0 hk); have KK4 := Lib.hid (KK3.out.trans hk); clear hk c0 c1 c2 c3 c4 c5 c6 c7; obtain ⟨c0, c1, c2, c3, c4, c5, c6, c7⟩ := J4.out.cells; dsimp only at c0 c1 c2 c3 c4 c5 c6 c7))
            all_goals
              go_ret
              refine ⟨ret_bool (hr'.out.trans ?_).symm, by first | exact KK4.out | exact KK3.out | exact KK2.out | exact KK1.out⟩
              have ht3' := ht3.out
              have ht4' := ht4.out
              first | (simp [*]; done) | (simp [*] <;> omega) | (simp at * <;> omega) | (simp at * <;> simp [*] <;> omega)
          · cases bs
            · go_wp2_with (first | (go_at_call_of 28 (Value.agg #[Value.int IntKind.i64 d0, Value.int IntKind.i64 d1]); refine (HD.out _).mono ?_; rintro e w1 ⟨rfl, hk⟩; have J1 := Lib.hid (H0.out.keep0 hk); have KK1 := Lib.hid (K0.out.trans hk); clear hk c0 c1 c2 c3 c4 c5 c6 c7; obtain ⟨c0, c1, c2, c3, c4, c5, c6, c7⟩ := J1.out.cells; dsimp only at c0 c1 c2 c3 c4 c5 c6 c7) | (go_at_call 29; refine (HW.out _).mono ?_; rintro e w2 ⟨rfl, hk⟩; have J2 := Lib.hid (J1.out.keep0 hk); have KK2 := Lib.hid (KK1.out.trans hk); clear hk c0 c1 c2 c3 c4 c5 c6 c7; obtain ⟨c0, c1, c2, c3, c4, c5, c6, c7⟩ := J2.out.cells; dsimp only at c0 c1 c2 c3 c4 c5 c6 c7) | (go_at_call 30; refine (HS.out _).mono ?_; rintro e w3 ⟨rfl, hk⟩; have J3 := Lib.hid (J2.out.keep0 hk); have KK3 := Lib.hid (KK2.out.trans hk); clear hk c0 c1 c2 c3 c4 c5 c6 c7; obtain ⟨c0, c1, c2, c3, c4, c5, c6, c7⟩ := J3.out.cells; dsimp only at c0 c1 c2 c3 c4 c5 c6 c7) | (go_at_call_of 28 (Value.agg #[Value.int IntKind.i64 v0, Value.int IntKind.i64 v1]); refine (HV.out _).mono ?_; rintro e w4 ⟨rfl, hk⟩; have J4 := Lib.hid (J3.out.keep0 hk); have KK4 := Lib.hid (KK3.out.trans hk); clear hk c0 c1 c2 c3 c4 c5 c6 c7; obtain ⟨c0, c1, c2, c3, c4, c5, c6, c7⟩ := J4.out.cells; dsimp only at c0 c1 c2 c3 c4 c5 c6 c7))
              all_goals
                go_ret
                refine ⟨ret_bool (hr'.out.trans ?_).symm, by first | exact KK4.out | exact KK3.out | exact KK2.out | exact KK1.out⟩
                have ht3' := ht3.out
                have ht4' := ht4.out
                first | (simp [*]; done) | (simp [*] <;> omega) | (simp at * <;> omega) | (simp at * <;> simp [*] <;> omega)
            · cases bv
              · go_wp2_with (first | (go_at_call_of 28 (Value.agg #[Value.int IntKind.i64 d0, Value.int IntKind.i64 d1]); refine (HD.out _).mono ?_; rintro e w1 ⟨rfl, hk⟩; have J1 := Lib.hid (H0.out.keep0 hk); have KK1 := Lib.hid (K0.out.trans hk); clear hk c0 c1 c2 c3 c4 c5 c6 c7; obtain ⟨c0, c1, c2, c3, c4, c5, c6, c7⟩ := J1.out.cells; dsimp only at c0 c1 c2 c3 c4 c5 c6 c7) | (go_at_call 29; refine (HW.out _).mono ?_; rintro e w2 ⟨rfl, hk⟩; have J2 := Lib.hid (J1.out.keep0 hk); have KK2 := Lib.hid (KK1.out.trans hk); clear hk c0 c1 c2 c3 c4 c5 c6 c7; obtain ⟨c0, c1, c2, c3, c4, c5, c6, c7⟩ := J2.out.cells; dsimp only at c0 c1 c2 c3 c4 c5 c6 c7) | (go_at_call 30; refine (HS.out _).mono ?_; rintro e w3 ⟨rfl, hk⟩; have J3 := Lib.hid (J2.out.keep0 hk); have KK3 := Lib.hid (KK2.out.trans hk); clear hk c0 c1 c2 c3 c4 c5 c6 c7; obtain ⟨c0, c1, c2, c3, c4, c5, c6, c7⟩ := J3.out.cells; dsimp only at c0 c1 c2 c3 c4 c5 c6 c7) | (go_at_call_of 28 (Value.agg #[Value.int IntKind.i64 v0, Value.int IntKind.i64 v1]); refine (HV.out _).mono ?_; rintro e w4 ⟨rfl, hk⟩; have J4 := Lib.hid (J3.out.keep0 hk); have KK4 := Lib.hid (KK3.out.trans hk); clear hk c0 c1 c2 c3 c4 c5 c6 c7; obtain ⟨c0, c1, c2, c3, c4, c5, c6, c7⟩ := J4.out.cells; dsimp only at c0 c1 c2 c3 c4 c5 c6 c7))
                all_goals
                  go_ret
                  refine ⟨ret_bool (hr'.out.trans ?_).symm, by first | exact KK4.out | exact KK3.out | exact KK2.out | exact KK1.out⟩
                  have ht3' := ht3.out
                  have ht4' := ht4.out
                  first | (simp [*]; done) | (simp [*] <;> omega) | (simp at * <;> omega) | (simp at * <;> simp [*] <;> omega)
              · cases bt
                all_goals
                  go_wp2_with (first | (go_at_call_of 28 (Value.agg #[Value.int IntKind.i64 d0, Value.int IntKind.i64 d1]); refine (HD.out _).mono ?_; rintro e w1 ⟨rfl, hk⟩; have J1 := Lib.hid (H0.out.keep0 hk); have KK1 := Lib.hid (K0.out.trans hk); clear hk c0 c1 c2 c3 c4 c5 c6 c7; obtain ⟨c0, c1, c2, c3, c4, c5, c6, c7⟩ := J1.out.cells; dsimp only at c0 c1 c2 c3 c4 c5 c6 c7) | (go_at_call 29; refine (HW.out _).mono ?_; rintro e w2 ⟨rfl, hk⟩; have J2 := Lib.hid (J1.out.keep0 hk); have KK2 := Lib.hid (KK1.out.trans hk); clear hk c0 c1 c2 c3 c4 c5 c6 c7; obtain ⟨c0, c1, c2, c3, c4, c5, c6, c7⟩ := J2.out.cells; dsimp only at c0 c1 c2 c3 c4 c5 c6 c7) | (go_at_call 30; refine (HS.out _).mono ?_; rintro e w3 ⟨rfl, hk⟩; have J3 := Lib.hid (J2.out.keep0 hk); have KK3 := Lib.hid (KK2.out.trans hk); clear hk c0 c1 c2 c3 c4 c5 c6 c7; obtain ⟨c0, c1, c2, c3, c4, c5, c6, c7⟩ := J3.out.cells; dsimp only at c0 c1 c2 c3 c4 c5 c6 c7) | (go_at_call_of 28 (Value.agg #[Value.int IntKind.i64 v0, Value.int IntKind.i64 v1]); refine (HV.out _).mono ?_; rintro e w4 ⟨rfl, hk⟩; have J4 := Lib.hid (J3.out.keep0 hk); have KK4 := Lib.hid (KK3.out.trans hk); clear hk c0 c1 c2 c3 c4 c5 c6 c7; obtain ⟨c0, c1, c2, c3, c4, c5, c6, c7⟩ := J4.out.cells; dsimp only at c0 c1 c2 c3 c4 c5 c6 c7))
                  all_goals
                    go_ret
                    refine ⟨ret_bool (hr'.out.trans ?_).symm, by first | exact KK4.out | exact KK3.out | exact KK2.out | exact KK1.out⟩
                    have ht3' := ht3.out
                    have ht4' := ht4.out
                    first | (simp [*]; done) | (simp [*] <;> omega) | (simp at * <;> omega) | (simp at * <;> simp [*] <;> omega)
    · have e2 : (p == 2) = false := by simpa using h2
      go_wp2_with fail
      all_goals
        go_ret
        refine ⟨ret_bool (hr'.out.trans ?_).symm, K0.out⟩
        have ht3' := ht3.out
        have ht4' := ht4.out
        first | (simp [*]; done) | (simp [*] <;> omega) | (simp at * <;> omega) | (simp at * <;> simp [*] <;> omega)
end Go.Proofs.Ytfoklfifgmacfaa
