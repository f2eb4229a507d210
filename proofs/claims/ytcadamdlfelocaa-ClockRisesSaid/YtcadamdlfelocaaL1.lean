/- The walk of ClockPeeks: it returns true and turns nothing that was there. -/
import Derived.Test.YtcadamdlfelocaaL0
namespace Go.Proofs.Ytcadamdlfelocaa
open Go.RowKit
theorem Ck.ok_tick {c : Ck} (h : c.Ok) (ht : c.told < 1000000) (now : Int) : (c.tick now).Ok := by
  unfold Ck.tick
  split
  · rename_i h0
    exact ⟨h.s, St.good_next h0, by have := h.t0; dsimp only; omega, by dsimp only; omega⟩
  · exact h
set_option maxRecDepth 100000 in
set_option maxHeartbeats 1000000 in
theorem peeks_walk (site n s now other : Int) (w : World) :
    Calls Try.prog 5 #[.int .i64 site, .agg #[.int .i64 n, .int .i64 s], .int .i64 now, .int .i64 other] w fun e w' => e = .returned (.bool true) ∧ Below w.heap.size w w' := by
  by_cases hok : (site = 1 ∨ site = 2) ∧ (St.mk n s).good = true
  · obtain ⟨⟨⟨x, y⟩, f⟩, hx⟩ : ∃ z, z = (St.mk n s).next now site := ⟨_, rfl⟩
    obtain ⟨⟨⟨x', y'⟩, f'⟩, hx'⟩ : ∃ z, z = (St.mk n s).next other site := ⟨_, rfl⟩
    have HX := Lib.hid hx
    have HX' := Lib.hid hx'
    have HS := Lib.hid hok
    have hc : Hid (Ck.Ok ⟨site, ⟨n, s⟩, 0⟩) := ⟨hok.1, hok.2, by dsimp only; omega, by dsimp only; omega⟩
    clear hok hx hx'
    go_enter Try.func5, Try.ntmps5
    go_wp2_with fail
    obtain ⟨r, hr⟩ : ∃ r, r = w.heap.size := ⟨_, rfl⟩
    rw [← hr]
    generalize hwa : w.alloc (Obj.cells #[Value.int IntKind.i64 n, Value.int IntKind.i64 s] 29) = wa
    have R0 : Hid (IsSt wa r ⟨n, s⟩) := by rw [← hwa, hr]; exact heap_alloc_new w _
    have K0 : Hid (Keep (fun _ => False) w wa) := by rw [← hwa]; exact Keep.alloc _ _ _
    have HR : Hid (r = w.heap.size) := hr
    clear hr hwa
    refine (cnew_ok site n s HS.out.1 HS.out.2 _).mono ?_
    rintro e w1 ⟨b, hb, rfl, i1, k1⟩
    have I1 := Lib.hid i1
    have R1 := Lib.hid (R0.out.keep0 k1)
    have K1 := Lib.hid (K0.out.trans k1)
    have HB : Hid (r < b) := by have := R0.out.lt; simp only [Hid]; omega
    have HB0 : Hid (w.heap.size ≤ b) := by have := HR.out; have := HB.out; simp only [Hid]; omega
    clear i1 k1 hb K0 R0
    go_wp2_with fail
    refine (peek_ok _ b ⟨site, ⟨n, s⟩, 0⟩ hc.out I1.out now x y f HX.out.symm).mono ?_
    rintro e w2 ⟨rfl, k2⟩
    have I2 := Lib.hid (I1.out.keep0 k2)
    have R2 := Lib.hid (R1.out.keep0 k2)
    have K2 := Lib.hid (K1.out.trans k2)
    clear k2
    go_wp2_with fail
    generalize hx2 : w2.alloc (Obj.cells #[Value.int IntKind.i64 x, Value.int IntKind.i64 y] 29) = x2
    obtain ⟨q2, hq2⟩ : ∃ q, q = w2.heap.size := ⟨_, rfl⟩
    rw [← hq2]
    have A2 : Hid (IsSt x2 q2 ⟨x, y⟩) := by rw [← hx2, hq2]; exact heap_alloc_new w2 _
    have B2 : Hid (b < q2) := by rw [hq2]; exact I2.out.lt
    have J2 : Hid (IsCk x2 b 56 ⟨site, ⟨n, s⟩, 0⟩) := by rw [← hx2]; exact I2.out.keep0 (Keep.alloc _ _ _)
    have S2 : Hid (IsSt x2 r ⟨n, s⟩) := by rw [← hx2]; exact R2.out.keep0 (Keep.alloc _ _ _)
    have L2 : Hid (Keep (fun _ => False) w x2) := by rw [← hx2]; exact K2.out.allocR _
    clear hx2 hq2 I2 K2 R2 I1 K1 R1
    refine (peek_ok _ b ⟨site, ⟨n, s⟩, 0⟩ hc.out J2.out other x' y' f' HX'.out.symm).mono ?_
    rintro e w3 ⟨rfl, k3⟩
    have A3 := Lib.hid (A2.out.keep0 k3)
    have J3 := Lib.hid (J2.out.keep0 k3)
    have S3 := Lib.hid (S2.out.keep0 k3)
    have L3 := Lib.hid (L2.out.trans k3)
    clear k3 A2 J2 S2 L2
    go_wp2_with fail
    refine (tick_ok _ b ⟨site, ⟨n, s⟩, 0⟩ hc.out J3.out now x y f HX.out.symm).mono ?_
    rintro e w4 ⟨rfl, i4, k4⟩
    have I4 := Lib.hid i4
    have A4 := Lib.hid (A3.out.keep k4 (by have := B2.out; omega))
    have S4 := Lib.hid (S3.out.keep k4 (by have := HB.out; omega))
    have L4 := Lib.hid (L3.out.step k4 (fun i hi => .inr (by have := HB0.out; omega)))
    clear i4 k4 A3 J3 S3 L3
    have O4 := Lib.hid (Ck.ok_tick hc.out (by dsimp only; omega) now)
    go_upto_region 7 with fail
    generalize hx5 : w4.alloc (Obj.cells #[Value.int IntKind.i64 x, Value.int IntKind.i64 y] 29) = x5
    obtain ⟨q5, hq5⟩ : ∃ q, q = w4.heap.size := ⟨_, rfl⟩
    rw [← hq5]
    have C5 : Hid (IsSt x5 q5 ⟨x, y⟩) := by rw [← hx5, hq5]; exact heap_alloc_new w4 _
    have A5 : Hid (IsSt x5 q2 ⟨x, y⟩) := by rw [← hx5]; exact A4.out.keep0 (Keep.alloc _ _ _)
    have S5 : Hid (IsSt x5 r ⟨n, s⟩) := by rw [← hx5]; exact S4.out.keep0 (Keep.alloc _ _ _)
    have I5 : Hid (IsCk x5 b 56 (Ck.tick ⟨site, ⟨n, s⟩, 0⟩ now)) := by rw [← hx5]; exact I4.out.keep0 (Keep.alloc _ _ _)
    have L5 : Hid (Keep (fun _ => False) w x5) := by rw [← hx5]; exact L4.out.allocR _
    clear hx5 hq5 I4 A4 S4 L4
    obtain ⟨c1, c2, _, _⟩ := C5.out.cells
    obtain ⟨a1, a2, _, _⟩ := A5.out.cells
    obtain ⟨s1, s2, _, _⟩ := S5.out.cells
    have lc := C5.out.lt
    have la := A5.out.lt
    have ls := S5.out.lt
    dsimp only at c1 c2 a1 a2 s1 s2
    have hRl := (Later.rules x5).1
    by_cases hf : f = 0
    · have HT : Hid ((Ck.tick ⟨site, ⟨n, s⟩, 0⟩ now) = ⟨site, ⟨x, y⟩, 1⟩) := by
        have h := HX.out.symm; unfold Ck.tick; dsimp only; rw [h, if_pos hf]; rfl
      have I6 := Lib.hid (HT.out ▸ I5.out)
      have O6 := Lib.hid (HT.out ▸ O4.out)
      clear I5 O4
      subst hf
      refine wp_region_later (by kernel_rfl) (by kernel_rfl) ?_
      repeat (refine wpQuiet_step (fun K hK => ?_); go_simp; first | (refine hK _ ?_; clear hK K) | (apply Exists.intro; refine ⟨fun _ => ?_, hK _ ?_⟩; (first | (go_at_call 17; exact Later.call (last_ok _ b ⟨site, ⟨x, y⟩, 1⟩ O6.out (I6.out.keep0 (Later.keep _)))) | (go_at_call 8; exact Later.call (lives_ok _))); clear hK K))
      refine wpQuiet_nil ?_
      intro _ hw'
      obtain ⟨g, hw''⟩ := hw'
      subst hw''
      have hk := g.keep
      clear hRl
      go_wp2_with fail
      go_ret
      exact ⟨rfl, Keep.below (L5.out.trans hk) (Nat.le_refl _) (fun _ h => h.elim)⟩
    · have HT : Hid ((Ck.tick ⟨site, ⟨n, s⟩, 0⟩ now) = ⟨site, ⟨n, s⟩, 0⟩) := by
        have h := HX.out.symm; unfold Ck.tick; dsimp only; rw [h, if_neg hf]; rfl
      have I6 := Lib.hid (HT.out ▸ I5.out)
      have O6 := Lib.hid (HT.out ▸ O4.out)
      clear I5 O4
      have hf1 : (f == 0) = false := by simpa using hf
      have hf2 : (f != 0) = true := by simpa using hf
      clear hf
      refine wp_region_later (by kernel_rfl) (by kernel_rfl) ?_
      repeat (refine wpQuiet_step (fun K hK => ?_); go_simp; first | (refine hK _ ?_; clear hK K) | (apply Exists.intro; refine ⟨fun _ => ?_, hK _ ?_⟩; (first | (go_at_call 17; exact Later.call (last_ok _ b ⟨site, ⟨n, s⟩, 0⟩ O6.out (I6.out.keep0 (Later.keep _)))) | (go_at_call 8; exact Later.call (lives_ok _))); clear hK K))
      refine wpQuiet_nil ?_
      intro _ hw'
      obtain ⟨g, hw''⟩ := hw'
      subst hw''
      have hk := g.keep
      clear hRl
      go_wp2_with fail
      go_ret
      exact ⟨rfl, Keep.below (L5.out.trans hk) (Nat.le_refl _) (fun _ h => h.elim)⟩
  · have HN := Lib.hid hok
    clear hok
    go_enter Try.func5, Try.ntmps5
    go_wp2_with (first
      | (go_at_call 7; refine (cnew_bad site n s HN.out _).mono ?_; rintro e w1 ⟨rfl, hk1⟩; have HK1 := hk1; clear hk1)
      | (go_at_call 8; refine (lives_ok _).mono ?_; rintro e w2 ⟨rfl, hk2⟩; have HK2 := hk2; clear hk2))
    go_ret
    exact ⟨rfl, Keep.below (((Keep.alloc _ _ _).trans HK1).trans HK2) (Nat.le_refl _) (fun _ h => h.elim)⟩
end Go.Proofs.Ytcadamdlfelocaa
