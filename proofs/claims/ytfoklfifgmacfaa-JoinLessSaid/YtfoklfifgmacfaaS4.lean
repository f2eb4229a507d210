/- The program's order of cells, walked. -/
import Derived.Test.YtfoklfifgmacfaaS2
namespace Go.Proofs.Ytfoklfifgmacfaa
open Go.RowKit
/-- A cell that lies at a block of its own. -/
def IsC (w : World) (b : Nat) (x : C) : Prop := w.heap[b]? = some (.cells #[.int .i64 x.n, .int .i64 x.s, .int .i64 x.v0, .int .i64 x.v1, .bool x.gone, .string x.value, .int .i64 x.d0, .int .i64 x.d1] 27 (0, 0))
theorem IsC.lt {w : World} {b : Nat} {x : C} (h : IsC w b x) : b < w.heap.size := lt_of_block h
theorem IsC.cells {w : World} {b : Nat} {x : C} (h : IsC w b x) : w.cell? ⟨b, 0, none⟩ = some (.int .i64 x.n) ∧ w.cell? ⟨b, 1, none⟩ = some (.int .i64 x.s) ∧ w.cell? ⟨b, 2, none⟩ = some (.int .i64 x.v0) ∧ w.cell? ⟨b, 3, none⟩ = some (.int .i64 x.v1) ∧
    w.cell? ⟨b, 4, none⟩ = some (.bool x.gone) ∧ w.cell? ⟨b, 5, none⟩ = some (.string x.value) ∧ w.cell? ⟨b, 6, none⟩ = some (.int .i64 x.d0) ∧ w.cell? ⟨b, 7, none⟩ = some (.int .i64 x.d1) :=
  ⟨cell_of h 0, cell_of h 1, cell_of h 2, cell_of h 3, cell_of h 4, cell_of h 5, cell_of h 6, cell_of h 7⟩
theorem IsC.free {w : World} {b : Nat} {x : C} (h : IsC w b x) (j : Nat) : w.frozen? ⟨b, j, none⟩ = false := free_of h j
theorem IsC.keep {S : Nat → Prop} {w w' : World} {b : Nat} {x : C} (h : IsC w b x) (k : Keep S w w') (hs : ¬ S b) : IsC w' b x := k.heap h hs
theorem IsC.keep0 {w w' : World} {b : Nat} {x : C} (h : IsC w b x) (k : Keep (fun _ => False) w w') : IsC w' b x := k.heap h (fun h => h)
theorem IsC.set {w : World} {b : Nat} {x : C} (h : IsC w b x) (y : C) : IsC ((((((((w.setCell ⟨b, 0, none⟩ (.int .i64 y.n)).setCell ⟨b, 1, none⟩ (.int .i64 y.s)).setCell ⟨b, 2, none⟩ (.int .i64 y.v0)).setCell ⟨b, 3, none⟩ (.int .i64 y.v1)).setCell ⟨b, 4, none⟩ (.bool y.gone)).setCell ⟨b, 5, none⟩ (.string y.value)).setCell ⟨b, 6, none⟩ (.int .i64 y.d0)).setCell ⟨b, 7, none⟩ (.int .i64 y.d1)) b y := by
  have h1 := heap_setCell_at (i := 7) (v := .int .i64 y.d1) (heap_setCell_at (i := 6) (v := .int .i64 y.d0) (heap_setCell_at (i := 5) (v := .string y.value) (heap_setCell_at (i := 4) (v := .bool y.gone) (heap_setCell_at (i := 3) (v := .int .i64 y.v1) (heap_setCell_at (i := 2) (v := .int .i64 y.v0) (heap_setCell_at (i := 1) (v := .int .i64 y.s) (heap_setCell_at (i := 0) (v := .int .i64 y.n) h)))))))
  simp only [List.setIfInBounds_toArray, List.set_cons_zero, List.set_cons_succ] at h1
  exact h1
theorem Keep.set8 (w : World) (b : Nat) (y : C) : Keep (fun i => i = b) w ((((((((w.setCell ⟨b, 0, none⟩ (.int .i64 y.n)).setCell ⟨b, 1, none⟩ (.int .i64 y.s)).setCell ⟨b, 2, none⟩ (.int .i64 y.v0)).setCell ⟨b, 3, none⟩ (.int .i64 y.v1)).setCell ⟨b, 4, none⟩ (.bool y.gone)).setCell ⟨b, 5, none⟩ (.string y.value)).setCell ⟨b, 6, none⟩ (.int .i64 y.d0)).setCell ⟨b, 7, none⟩ (.int .i64 y.d1)) :=
  by repeat (refine Keep.trans ?_ (Keep.setCell (S := fun i => i = b) _ _ (show b = b from rfl)))
     exact Keep.refl _ _
theorem IsC.new (w : World) (x : C) : IsC (w.alloc (.cells #[.int .i64 x.n, .int .i64 x.s, .int .i64 x.v0, .int .i64 x.v1, .bool x.gone, .string x.value, .int .i64 x.d0, .int .i64 x.d1] 27)) w.heap.size x := heap_alloc_new w _
set_option maxHeartbeats 2000000 in
set_option maxRecDepth 100000 in
theorem less_any (n s v0 v1 : Int) (g : Bool) (t : ByteArray) (d0 d1 : Int) (n' s' v0' v1' : Int) (g' : Bool) (t' : ByteArray) (d0' d1' : Int) (w : World) :
    Calls Try.prog 10 #[.agg #[.int .i64 n, .int .i64 s, .int .i64 v0, .int .i64 v1, .bool g, .string t, .int .i64 d0, .int .i64 d1], .agg #[.int .i64 n', .int .i64 s', .int .i64 v0', .int .i64 v1', .bool g', .string t', .int .i64 d0', .int .i64 d1']] w fun e w' => e = .returned (.bool (C.less ⟨n, s, v0, v1, g, t, d0, d1⟩ ⟨n', s', v0', v1', g', t', d0', d1'⟩)) ∧ Keep (fun _ => False) w w' := by
  obtain ⟨r, hr⟩ : ∃ r, r = C.less ⟨n, s, v0, v1, g, t, d0, d1⟩ ⟨n', s', v0', v1', g', t', d0', d1'⟩ := ⟨_, rfl⟩
  rw [← hr]
  have HQ := Lib.hid hr
  clear hr
  go_enter Try.func10, Try.ntmps10
  have h25 := fun a b c e => equalIn25 9997 a b c e
  go_upto_region 1 with fail
  obtain ⟨b, hb⟩ : ∃ b, b = w.heap.size := ⟨_, rfl⟩
  rw [← hb]
  generalize hwa : (w.alloc (Obj.cells #[.int .i64 n, .int .i64 s, .int .i64 v0, .int .i64 v1, .bool g, .string t, .int .i64 d0, .int .i64 d1] 27)).alloc (Obj.cells #[.int .i64 n', .int .i64 s', .int .i64 v0', .int .i64 v1', .bool g', .string t', .int .i64 d0', .int .i64 d1'] 27) = wa
  have H1 : Hid (IsC wa b ⟨n, s, v0, v1, g, t, d0, d1⟩) := by rw [← hwa, hb]; exact (IsC.new w ⟨n, s, v0, v1, g, t, d0, d1⟩).keep0 (Keep.alloc _ _ _)
  have H2 : Hid (IsC wa (b + 1) ⟨n', s', v0', v1', g', t', d0', d1'⟩) := by rw [← hwa, hb]; have := IsC.new (w.alloc (Obj.cells #[.int .i64 n, .int .i64 s, .int .i64 v0, .int .i64 v1, .bool g, .string t, .int .i64 d0, .int .i64 d1] 27)) ⟨n', s', v0', v1', g', t', d0', d1'⟩; exact (show w.heap.size + 1 = (w.alloc _).heap.size by simp) ▸ this
  have K0 : Hid (Keep (fun _ => False) w wa) := by rw [← hwa]; exact (Keep.alloc _ _ _).allocR _
  have HB := Lib.hid hb
  obtain ⟨c0, c1, c2, c3, c4, c5, c6, c7⟩ := H1.out.cells
  obtain ⟨e0, e1, e2, e3, e4, e5, e6, e7⟩ := H2.out.cells
  have hb1 := H1.out.lt
  have hb2 := H2.out.lt
  dsimp only at c0 c1 c2 c3 c4 c5 c6 c7 e0 e1 e2 e3 e4 e5 e6 e7
  have hRl := (Later.rules wa).1
  clear hb hwa
  refine wp_region_later_tail 4 (by kernel_rfl) (by kernel_rfl) ?_
  simp only [List.take_succ_cons, List.take_zero, List.drop_succ_cons, List.drop_zero]
  repeat (refine wpQuiet_step (fun K hK => ?_); go_simp; first | (refine hK _ ?_; clear hK K) | (apply Exists.intro; refine ⟨fun _ => ?_, hK _ ?_⟩; ((go_at_call 20; exact Later.call (write_any _ _ _ _ _ _ _ _ _))); clear hK K))
  refine wpQuiet_nil ?_
  intro _ hw'
  obtain ⟨k, hw''⟩ := hw'
  subst hw''
  obtain ⟨wk, hwk⟩ : ∃ wk, wk = k.world := ⟨_, rfl⟩
  have hkk := k.keep
  rw [← hwk] at hkk ⊢
  have J1 := Lib.hid (H1.out.keep0 hkk)
  have J2 := Lib.hid (H2.out.keep0 hkk)
  have KJ := Lib.hid (K0.out.trans hkk)
  clear hRl c0 c1 c2 c3 c4 c5 c6 c7 e0 e1 e2 e3 e4 e5 e6 e7 hb1 hb2 hwk hkk
  obtain ⟨c0, c1, c2, c3, c4, c5, c6, c7⟩ := J1.out.cells
  obtain ⟨e0, e1, e2, e3, e4, e5, e6, e7⟩ := J2.out.cells
  have f1 := J1.out.free
  have f2 := J2.out.free
  dsimp only at c0 c1 c2 c3 c4 c5 c6 c7 e0 e1 e2 e3 e4 e5 e6 e7
  go_upto_region 2 with fail
  clear c0 c1 c2 c3 c4 c5 c6 c7 e0 e1 e2 e3 e4 e5 e6 e7 f1 f2
  generalize hwt : World.setCell _ { block := b + 1, off := 7 } (Value.int IntKind.i64 0) = wt
  have T1 : Hid (IsC wt b ⟨n, s, v0, v1, g, t, 0, 0⟩) := by rw [← hwt]; exact (J1.out.set ⟨n, s, v0, v1, g, t, 0, 0⟩).keep (Keep.set8 _ (b + 1) ⟨n', s', v0', v1', g', t', 0, 0⟩) (by omega)
  have T2 : Hid (IsC wt (b + 1) ⟨n', s', v0', v1', g', t', 0, 0⟩) := by rw [← hwt]; exact (J2.out.keep (Keep.set8 wk b ⟨n, s, v0, v1, g, t, 0, 0⟩) (by omega)).set ⟨n', s', v0', v1', g', t', 0, 0⟩
  have KT : Hid (Keep (fun _ => False) w wt) := by rw [← hwt]; exact (KJ.out.step (Keep.set8 wk b ⟨n, s, v0, v1, g, t, 0, 0⟩) (fun i hi => .inr (by have := HB.out; omega))).step (Keep.set8 _ (b + 1) ⟨n', s', v0', v1', g', t', 0, 0⟩) (fun i hi => .inr (by have := HB.out; omega))
  clear hwt J1 J2 KJ K0 H1 H2
  obtain ⟨c0, c1, c2, c3, c4, c5, c6, c7⟩ := T1.out.cells
  obtain ⟨e0, e1, e2, e3, e4, e5, e6, e7⟩ := T2.out.cells
  have hb1 := T1.out.lt
  have hb2 := T2.out.lt
  dsimp only at c0 c1 c2 c3 c4 c5 c6 c7 e0 e1 e2 e3 e4 e5 e6 e7
  by_cases h_n : n = n'
  · subst h_n
    by_cases h_s : s = s'
    · subst h_s
      by_cases h_g : g = g'
      · subst h_g
        by_cases h_t : t = t'
        · subst h_t
          by_cases h_v0 : v0 = v0'
          · subst h_v0
            by_cases h_v1 : v1 = v1'
            · subst h_v1
              have hv : C.less ⟨n, s, v0, v1, g, t, d0, d1⟩ ⟨n, s, v0, v1, g, t, d0', d1'⟩ = false := by simp [C.less]
              have HV : Hid (r = false) := HQ.out.trans hv
              clear hv HQ
              go_wp2_with (go_at_call 21; refine (sless_any _ _ _ _ _).mono ?_; rintro e w1 ⟨rfl, hk⟩; have HK := hk; obtain ⟨hc, hf⟩ := hk.rules; clear hk)
              all_goals
                go_ret
                rw [HV.out]
                exact ⟨ret_bool (by simp at *), by first | exact KT.out | exact KT.out.trans HK⟩
            · have e_v1 : (v1 == v1') = false := by simpa using h_v1
              have hv : C.less ⟨n, s, v0, v1, g, t, d0, d1⟩ ⟨n, s, v0, v1', g, t, d0', d1'⟩ = decide (v1 < v1') := by simp [C.less]
              have HV : Hid (r = decide (v1 < v1')) := HQ.out.trans hv
              clear hv HQ
              go_wp2_with (go_at_call 21; refine (sless_any _ _ _ _ _).mono ?_; rintro e w1 ⟨rfl, hk⟩; have HK := hk; obtain ⟨hc, hf⟩ := hk.rules; clear hk)
              all_goals
                go_ret
                rw [HV.out]
                exact ⟨ret_bool (by simp at *), by first | exact KT.out | exact KT.out.trans HK⟩
          · have e_v0 : (v0 == v0') = false := by simpa using h_v0
            have hv : C.less ⟨n, s, v0, v1, g, t, d0, d1⟩ ⟨n, s, v0', v1', g, t, d0', d1'⟩ = decide (v0 < v0') := by simp [C.less, h_v0]
            have HV : Hid (r = decide (v0 < v0')) := HQ.out.trans hv
            clear hv HQ
            go_wp2_with (go_at_call 21; refine (sless_any _ _ _ _ _).mono ?_; rintro e w1 ⟨rfl, hk⟩; have HK := hk; obtain ⟨hc, hf⟩ := hk.rules; clear hk)
            all_goals
              go_ret
              rw [HV.out]
              exact ⟨ret_bool (by simp at *), by first | exact KT.out | exact KT.out.trans HK⟩
        · have e_t := str_neq h_t
          have hv : C.less ⟨n, s, v0, v1, g, t, d0, d1⟩ ⟨n, s, v0', v1', g, t', d0', d1'⟩ = Op.bytesLess t.toList t'.toList := by simp [C.less, h_t]
          have HV : Hid (r = Op.bytesLess t.toList t'.toList) := HQ.out.trans hv
          clear hv HQ
          go_wp2_with (go_at_call 21; refine (sless_any _ _ _ _ _).mono ?_; rintro e w1 ⟨rfl, hk⟩; have HK := hk; obtain ⟨hc, hf⟩ := hk.rules; clear hk)
          all_goals
            go_ret
            rw [HV.out]
            exact ⟨ret_bool (by simp at *), by first | exact KT.out | exact KT.out.trans HK⟩
      · have e_g : (g == g') = false := by simpa using h_g
        have hv : C.less ⟨n, s, v0, v1, g, t, d0, d1⟩ ⟨n, s, v0', v1', g', t', d0', d1'⟩ = g' := by simp [C.less, h_g]
        have HV : Hid (r = g') := HQ.out.trans hv
        clear hv HQ
        go_wp2_with (go_at_call 21; refine (sless_any _ _ _ _ _).mono ?_; rintro e w1 ⟨rfl, hk⟩; have HK := hk; obtain ⟨hc, hf⟩ := hk.rules; clear hk)
        all_goals
          go_ret
          rw [HV.out]
          exact ⟨ret_bool (by simp at *), by first | exact KT.out | exact KT.out.trans HK⟩
    · have e_s : (s == s') = false := by simpa using h_s
      have hv : C.less ⟨n, s, v0, v1, g, t, d0, d1⟩ ⟨n, s', v0', v1', g', t', d0', d1'⟩ = sless n s n s' := by simp [C.less, h_s]
      have HV : Hid (r = sless n s n s') := HQ.out.trans hv
      clear hv HQ
      go_wp2_with (go_at_call 21; refine (sless_any _ _ _ _ _).mono ?_; rintro e w1 ⟨rfl, hk⟩; have HK := hk; obtain ⟨hc, hf⟩ := hk.rules; clear hk)
      all_goals
        go_ret
        rw [HV.out]
        exact ⟨ret_bool (by simp at *), by first | exact KT.out | exact KT.out.trans HK⟩
  · have e_n : (n == n') = false := by simpa using h_n
    have hv : C.less ⟨n, s, v0, v1, g, t, d0, d1⟩ ⟨n', s', v0', v1', g', t', d0', d1'⟩ = sless n s n' s' := by simp [C.less, h_n]
    have HV : Hid (r = sless n s n' s') := HQ.out.trans hv
    clear hv HQ
    go_wp2_with (go_at_call 21; refine (sless_any _ _ _ _ _).mono ?_; rintro e w1 ⟨rfl, hk⟩; have HK := hk; obtain ⟨hc, hf⟩ := hk.rules; clear hk)
    all_goals
      go_ret
      rw [HV.out]
      exact ⟨ret_bool (by simp at *), by first | exact KT.out | exact KT.out.trans HK⟩
end Go.Proofs.Ytfoklfifgmacfaa
