/- The reference: the sums behind a block. -/
import Derived.Test.YtoeniimgbinflaaDoorT1
namespace Go.Proofs.YtoeniimgbinflaaDoor
open Go.RowKit
theorem ch_eq (e f g : W32) : (e &&& f) ^^^ (~~~e &&& g) = ch e f g := by
  unfold ch
  apply BitVec.eq_of_getLsbD_eq
  intro i hi
  simp only [BitVec.getLsbD_xor, BitVec.getLsbD_and, BitVec.getLsbD_not]
  cases e.getLsbD i <;> cases f.getLsbD i <;> cases g.getLsbD i <;> simp [hi]
theorem mj_eq (a b c : W32) : (a &&& b) ^^^ (a &&& c) ^^^ (b &&& c) = mj a b c := by
  unfold mj
  apply BitVec.eq_of_getLsbD_eq
  intro i hi
  simp only [BitVec.getLsbD_xor, BitVec.getLsbD_and, BitVec.getLsbD_or]
  cases a.getLsbD i <;> cases b.getLsbD i <;> cases c.getLsbD i <;> rfl
theorem v_not (e : W32) : bits .xor .u32 (if IntKind.u32.signed = true then -1 else IntKind.u32.max) (e.toNat : Int) = ((~~~e).toNat : Int) := by
  have h : (if IntKind.u32.signed = true then (-1 : Int) else IntKind.u32.max) = ((BitVec.allOnes 32).toNat : Int) := by decide
  rw [h, v_xor]
  congr 2
/-- The steps of a round's first sum, as the reference takes them. -/
theorem rx2_steps (e f g h k w : W32) : ∃ r1 r2 r3 a1 a2 a3 a4 a5 a6 a7 a8 a9 a0 : W32, rr e 6 = r1 ∧ rr e 11 = r2 ∧ rr e 25 = r3 ∧ bits .xor .u32 (r1.toNat : Int) (r2.toNat : Int) = a1.toNat ∧ bits .xor .u32 (a1.toNat : Int) (r3.toNat : Int) = a2.toNat ∧
    IntKind.u32.wrap ((h.toNat : Int) + a2.toNat) = a3.toNat ∧ bits .and .u32 (e.toNat : Int) (f.toNat : Int) = a4.toNat ∧ bits .xor .u32 (if IntKind.u32.signed = true then -1 else IntKind.u32.max) (e.toNat : Int) = a5.toNat ∧ bits .and .u32 (a5.toNat : Int) (g.toNat : Int) = a6.toNat ∧ bits .xor .u32 (a4.toNat : Int) (a6.toNat : Int) = a7.toNat ∧
    IntKind.u32.wrap ((a3.toNat : Int) + a7.toNat) = a8.toNat ∧ IntKind.u32.wrap ((a8.toNat : Int) + k.toNat) = a9.toNat ∧ IntKind.u32.wrap ((a9.toNat : Int) + w.toNat) = a0.toNat ∧ h + sx e + ch e f g + k + w = a0 :=
  ⟨_, _, _, _, _, _, _, _, _, _, _, _, _, rfl, rfl, rfl, v_xor _ _, v_xor _ _, v_add _ _, v_and _ _, v_not _, v_and _ _, v_xor _ _, v_add _ _, v_add _ _, v_add _ _, by rw [← ch_eq]; rfl⟩
/-- The steps of a round's second sum, and of what becomes of two words, as the reference takes them. -/
theorem ry2_steps (a b c d x : W32) : ∃ r1 r2 r3 c1 c2 c3 c4 c5 c6 c7 c8 c9 c0 : W32, rr a 2 = r1 ∧ rr a 13 = r2 ∧ rr a 22 = r3 ∧ bits .xor .u32 (r1.toNat : Int) (r2.toNat : Int) = c1.toNat ∧ bits .xor .u32 (c1.toNat : Int) (r3.toNat : Int) = c2.toNat ∧
    bits .and .u32 (a.toNat : Int) (b.toNat : Int) = c3.toNat ∧ bits .and .u32 (a.toNat : Int) (c.toNat : Int) = c4.toNat ∧ bits .xor .u32 (c3.toNat : Int) (c4.toNat : Int) = c5.toNat ∧ bits .and .u32 (b.toNat : Int) (c.toNat : Int) = c6.toNat ∧ bits .xor .u32 (c5.toNat : Int) (c6.toNat : Int) = c7.toNat ∧
    IntKind.u32.wrap ((c2.toNat : Int) + c7.toNat) = c8.toNat ∧ ((x.toNat : Int) + c8.toNat) % 4294967296 = c9.toNat ∧ ((d.toNat : Int) + x.toNat) % 4294967296 = c0.toNat ∧ x + (sy a + mj a b c) = c9 ∧ d + x = c0 :=
  ⟨_, _, _, _, _, _, _, _, _, _, _, _, _, rfl, rfl, rfl, v_xor _ _, v_xor _ _, v_and _ _, v_and _ _, v_xor _ _, v_and _ _, v_xor _ _, v_add _ _, m_add _ _, m_add _ _, by rw [← mj_eq]; rfl, rfl⟩
/-- The block of an own row of words. -/
theorem own_block {w : World} {base n : Nat} {a : Option Addr} {cap : Nat} {ws : List W32} (h : w.ownsRow base 37 1 (.slice a n cap) n (ws.map W32.v)) (hn : 0 < n) : ∃ g cur, a = some ⟨g, 0, none⟩ ∧ w.heap[g]? = some (.cells cur 37 (0, 0)) ∧ ∀ i, i < n → cur[i]? = some (.int .u32 ((ws.getD i 0).toNat : Int)) := by
  have hl : ws.length = n := by have := h.1; simpa using this
  rcases h.2 with ⟨hv, hn0⟩ | ⟨g, cap', cur, hv, hb, hg, hc, hm, hs, ht⟩
  · omega
  · simp only [Value.slice.injEq] at hv
    obtain ⟨rfl, _, rfl⟩ := hv
    refine ⟨g, cur, rfl, hg, fun i hi => ?_⟩
    have h1 : (cur.toList.take (n * 1))[i]? = some (ws.getD i 0).v := by
      rw [ht, List.getElem?_map, List.getD_eq_getElem?_getD, List.getElem?_eq_getElem (by omega)]; rfl
    rw [List.getElem?_take, if_pos (by omega)] at h1
    simpa using h1
theorem cs_one (s : H8) : s.cs.toArray.all (·.oneCell') = true := by rw [← part0 s s]; exact part_one s s 0
set_option maxHeartbeats 4000000 in
set_option maxRecDepth 100000 in
theorem block_to (s : H8) (w : World) (b1 o1 cap : Nat) (b : List UInt8) (hb : b.length = 64) (hbl : Bl w (some ⟨b1, o1, none⟩) b) (ws : List W32) (hws : Hid (wl b 64 = ws)) (t : H8) (ht : Hid (rounds s ws 64 = t)) : Calls Tryd.prog 19 #[.agg s.cs.toArray, .slice (some ⟨b1, o1, none⟩) 64 cap] w fun e w' => e = .returned (.agg (s.add t).cs.toArray) ∧ Keep (fun _ => False) w w' := by
  obtain ⟨q, hq⟩ : ∃ q, w.heap.size = q := ⟨_, rfl⟩
  have HQ := Lib.hid hq
  have HB := Lib.hid hbl
  have hi38 : ∀ r : H8, (Tryd.prog.info? 38).map (·.size) = some r.cs.toArray.size := fun r => by rw [List.size_toArray, show r.cs.length = 8 from rfl]; kernel_rfl
  have HI := Lib.hid hi38
  obtain ⟨X, hX⟩ : ∃ X, (w.alloc (.cells s.cs.toArray 38)).alloc (.cells (List.replicate 8 (Value.int .u32 0)).toArray 38) = X := ⟨_, rfl⟩
  have HX : Hid (Keep (fun _ => False) w X) := by rw [← hX]; exact (Keep.alloc _ _ _).allocR _
  have HX0 : Hid (X.heap[q]? = some (.cells s.cs.toArray 38 (0, 0))) := by rw [← hX, ← hq]; exact heap_alloc2_old w _ _
  have HX1 : Hid (X.heap[q + 1]? = some (.cells (List.replicate 8 (Value.int .u32 0)).toArray 38 (0, 0))) := by rw [← hX, ← hq]; exact heap_alloc2_new w _ _
  have HWD : Hid (Calls Tryd.prog 24 #[.slice (some ⟨b1, o1, none⟩) 64 cap] X fun e w' => ∃ g cap' cur, e = .returned (.slice (some ⟨g, 0, none⟩) 64 cap') ∧ (w'.heap[g]? = some (.cells cur 37 (0, 0)) ∧ ∀ i, i < 64 → cur[i]? = some (.int .u32 ((ws.getD i 0).toNat : Int))) ∧ Keep (fun _ => False) X w') := by
    refine (words_any X b1 o1 cap b hb (HB.out.keep0 HX.out)).mono fun e w' ⟨a, cap', he, ho, hk⟩ => ?_
    rw [hws.out] at ho
    obtain ⟨g, cur, rfl, h1, h2⟩ := own_block ho (by decide)
    exact ⟨g, cap', cur, he, ⟨h1, h2⟩, hk⟩
  clear hbl hb hws hi38
  go_enter Tryd.func19, Tryd.ntmps19
  go_upto_region 1 with fail
  rw [show ((Value.int IntKind.u32 0 :: Value.int IntKind.u32 0 :: Value.int IntKind.u32 0 :: Value.int IntKind.u32 0 :: Value.int IntKind.u32 0 :: Value.int IntKind.u32 0 :: Value.int IntKind.u32 0 :: Value.int IntKind.u32 0 :: [] : List Value).toArray) = (List.replicate 8 (Value.int .u32 0)).toArray from rfl, hX]
  clear hX
  go_upto_region 2 with (go_at_call 24; with_reducible refine HWD.out.mono ?_; rintro e W ⟨g, cap', cur, rfl, hcur, hkw⟩)
  have HCUR := Lib.hid hcur
  have HKW : Hid (Keep (fun _ => False) w W) := HX.out.trans hkw
  have HW0 := Lib.hid (hkw.heap HX0.out (fun h => h))
  have HW1 := Lib.hid (hkw.heap HX1.out (fun h => h))
  clear hcur hkw HX0 HX1 HX HWD hq
  obtain ⟨q2, hq2⟩ : ∃ q2, W.heap.size = q2 := ⟨_, rfl⟩
  have HQ2 := Lib.hid hq2
  have HG2 : Hid (∀ V : World, V.heap.size = q2 → (V.alloc (.cells (List.replicate 8 (Value.int .u32 0)).toArray 38)).heap[q2]? = some (.cells (List.replicate 8 (Value.int .u32 0)).toArray 38 (0, 0))) := fun V h => by rw [← h]; exact heap_alloc_new _ _
  have hw0 := HW0.out
  have hi := HI.out s
  have hone := cs_one s
  go_upto_region 3 with (first | refine wpList_load_row rfl 38 (.tmp 2) rfl q rfl 38 s.cs.toArray (0, 0) _ hw0 Tryd.underlying38 rfl hi ?_ | refine wpList_store_row rfl 38 (.tmp 6) (.tmp 13) rfl q2 s.cs.toArray rfl rfl 38 _ (HG2.out _ HQ2.out) hi rfl hone ?_)
  generalize hY : World.setRow _ q2 _ = Y
  have HY : Hid (Keep (fun _ => False) W Y) := by rw [← hY]; exact (Keep.alloc _ _ _).rowNew (by rw [HQ2.out]; exact Nat.le_refl _) _
  have HY2 : Hid (Y.heap[q2]? = some (.cells s.cs.toArray 38 (0, 0))) := by rw [← hY]; exact setRow_heap _ _ _ _ 38 (0, 0) (HG2.out _ HQ2.out)
  have hlq : q + 1 < q2 := by rw [← hq2]; exact lt_of_block HW1.out
  have hlg : g < q2 := by rw [← hq2]; exact lt_of_block HCUR.out.1
  have hqw : w.heap.size ≤ q2 := by rw [HQ.out]; omega
  have HYK : Hid (Keep (fun _ => False) w Y) := HKW.out.trans HY.out
  have HY0 := Lib.hid (HY.out.heap HW0.out (fun h => h))
  have HY1 := Lib.hid (HY.out.heap HW1.out (fun h => h))
  have HYG := Lib.hid (HY.out.heap HCUR.out.1 (fun h => h))
  clear hY hq2 HG2 hw0 hi hone HW0 HW1 HKW HY
  go_wp2_with fail
  go_loopw [7] (fun t7 wr => ∃ (n : Nat) (r : H8), n ≤ 64 ∧ t7 = .int .i64 n ∧ r = rounds s ws n ∧ Keep (fun i => i = q2) Y wr ∧ wr.heap[q2]? = some (.cells r.cs.toArray 38 (0, 0))) (fun t7 _ => 64 - (intOf t7).toNat)
  case atStart => exact ⟨0, s, by omega, rfl, rfl, Keep.refl _ _, HY2.out⟩
  case round =>
    obtain ⟨n, r, hn, rfl, hr, hk, hc⟩ := hrel
    have HK := Lib.hid hk
    have HC := Lib.hid hc
    have HR := Lib.hid hr
    clear hk hc hr
    by_cases hlt : n < 64
    · have hlt' : (n : Int) < 64 := by omega
      have hrn : rnd r (kk n) (ws.getD n 0) = rounds s ws (n + 1) := by rw [HR.out]; rfl
      have hgw : wr.cell? ⟨g, n, none⟩ = some (.int .u32 ((ws.getD n 0).toNat : Int)) := (cell_of (HK.out.heap HYG.out (by omega)) n).trans (HCUR.out.2 n hlt)
      have HKC := Lib.hid (k_any n hlt)
      obtain ⟨ra, rb, rc, rd, re, rf, rg, rh⟩ := r
      have t0 : wr.cell? ⟨q2, 0, none⟩ = some (.int .u32 (ra.toNat : Int)) := cell_of HC.out 0
      have t1 : wr.cell? ⟨q2, 1, none⟩ = some (.int .u32 (rb.toNat : Int)) := cell_of HC.out 1
      have t2 : wr.cell? ⟨q2, 2, none⟩ = some (.int .u32 (rc.toNat : Int)) := cell_of HC.out 2
      have t3 : wr.cell? ⟨q2, 3, none⟩ = some (.int .u32 (rd.toNat : Int)) := cell_of HC.out 3
      have t4 : wr.cell? ⟨q2, 4, none⟩ = some (.int .u32 (re.toNat : Int)) := cell_of HC.out 4
      have t5 : wr.cell? ⟨q2, 5, none⟩ = some (.int .u32 (rf.toNat : Int)) := cell_of HC.out 5
      have t6 : wr.cell? ⟨q2, 6, none⟩ = some (.int .u32 (rg.toNat : Int)) := cell_of HC.out 6
      have t7 : wr.cell? ⟨q2, 7, none⟩ = some (.int .u32 (rh.toNat : Int)) := cell_of HC.out 7
      obtain ⟨r1, r2, r3, a1, a2, a3, a4, a5, a6, a7, a8, a9, x0, e1, e2, e3, f1, f2, f3, f4, f5, f6, f7, f8, f9, f0, hx⟩ := rx2_steps re rf rg rh (kk n) (ws.getD n 0)
      obtain ⟨p1, p2, p3, c1, c2, c3, c4, c5, c6, c7, c8, c9, c0, d1, d2, d3, g1, g2, g3, g4, g5, g6, g7, g8, g9, g0, hy, hz⟩ := ry2_steps ra rb rc rd x0
      have HRN : Hid ((⟨c9, ra, rb, rc, c0, re, rf, rg⟩ : H8) = rounds s ws (n + 1)) := by rw [← hrn, ← hy, ← hz, ← hx]; rfl
      clear hrn hx hy hz HR
      generalize ws.getD n 0 = wn at *
      unfold W32.v at HKC
      generalize kk n = kn at *
      have R6 : Hid (∀ W, Calls Tryd.prog 25 #[.int .u32 (re.toNat : Int), .int .i64 6] W fun e w' => e = .returned (.int .u32 (r1.toNat : Int)) ∧ Keep (fun _ => False) W w') := fun W => by rw [← e1]; exact (turn_any re 6 (by decide) (by decide) W).mono fun _ _ ⟨a, b⟩ => ⟨a, by subst b; exact Keep.refl _ _⟩
      have R11 : Hid (∀ W, Calls Tryd.prog 25 #[.int .u32 (re.toNat : Int), .int .i64 11] W fun e w' => e = .returned (.int .u32 (r2.toNat : Int)) ∧ Keep (fun _ => False) W w') := fun W => by rw [← e2]; exact (turn_any re 11 (by decide) (by decide) W).mono fun _ _ ⟨a, b⟩ => ⟨a, by subst b; exact Keep.refl _ _⟩
      have R25 : Hid (∀ W, Calls Tryd.prog 25 #[.int .u32 (re.toNat : Int), .int .i64 25] W fun e w' => e = .returned (.int .u32 (r3.toNat : Int)) ∧ Keep (fun _ => False) W w') := fun W => by rw [← e3]; exact (turn_any re 25 (by decide) (by decide) W).mono fun _ _ ⟨a, b⟩ => ⟨a, by subst b; exact Keep.refl _ _⟩
      have R2 : Hid (∀ W, Calls Tryd.prog 25 #[.int .u32 (ra.toNat : Int), .int .i64 2] W fun e w' => e = .returned (.int .u32 (p1.toNat : Int)) ∧ Keep (fun _ => False) W w') := fun W => by rw [← d1]; exact (turn_any ra 2 (by decide) (by decide) W).mono fun _ _ ⟨a, b⟩ => ⟨a, by subst b; exact Keep.refl _ _⟩
      have R13 : Hid (∀ W, Calls Tryd.prog 25 #[.int .u32 (ra.toNat : Int), .int .i64 13] W fun e w' => e = .returned (.int .u32 (p2.toNat : Int)) ∧ Keep (fun _ => False) W w') := fun W => by rw [← d2]; exact (turn_any ra 13 (by decide) (by decide) W).mono fun _ _ ⟨a, b⟩ => ⟨a, by subst b; exact Keep.refl _ _⟩
      have R22 : Hid (∀ W, Calls Tryd.prog 25 #[.int .u32 (ra.toNat : Int), .int .i64 22] W fun e w' => e = .returned (.int .u32 (p3.toNat : Int)) ∧ Keep (fun _ => False) W w') := fun W => by rw [← d3]; exact (turn_any ra 22 (by decide) (by decide) W).mono fun _ _ ⟨a, b⟩ => ⟨a, by subst b; exact Keep.refl _ _⟩
      have hs2 : q2 < wr.heap.size := lt_of_block HC.out
      have hsg : g < wr.heap.size := World.block_lt_of_cell? wr _ hgw
      have hRl := (Later.rules wr).1
      clear e1 e2 e3 d1 d2 d3
      go_wp2_with fail
      refine wp_region_later (by kernel_rfl) (by kernel_rfl) ?_
      repeat (refine wpQuiet_step (fun K hK => ?_); go_simp; first | (refine hK _ ?_; clear hK K) | (apply Exists.intro; refine ⟨fun g => ?_, hK _ ?_⟩; (first | (go_at_call 25; with_reducible exact Later.call (R6.out _)) | (go_at_call 25; with_reducible exact Later.call (R11.out _)) | (go_at_call 25; with_reducible exact Later.call (R25.out _)) | (go_at_call 26; with_reducible exact Later.call (HKC.out _))); clear hK K))
      refine wpQuiet_nil ?_
      intro X hX0
      obtain ⟨gl, hX⟩ := hX0
      have HKX : Hid (Keep (fun i => i = q2) Y X) := hX ▸ HK.out.trans (gl.keep.mono (fun _ h => h.elim))
      have HCX : Hid (X.heap[q2]? = some (.cells (H8.mk ra rb rc rd re rf rg rh).cs.toArray 38 (0, 0))) := hX ▸ gl.keep.heap HC.out (fun h => h)
      clear hX gl hRl hs2 hsg hgw t0 t1 t2 t3 t4 t5 t6 t7 R6 R11 R25 HKC f1 f2 f3 f4 f5 f6 f7 f8 f9 f0
      have t0 : X.cell? ⟨q2, 0, none⟩ = some (.int .u32 (ra.toNat : Int)) := cell_of HCX.out 0
      have t1 : X.cell? ⟨q2, 1, none⟩ = some (.int .u32 (rb.toNat : Int)) := cell_of HCX.out 1
      have t2 : X.cell? ⟨q2, 2, none⟩ = some (.int .u32 (rc.toNat : Int)) := cell_of HCX.out 2
      have t3 : X.cell? ⟨q2, 3, none⟩ = some (.int .u32 (rd.toNat : Int)) := cell_of HCX.out 3
      have t4 : X.cell? ⟨q2, 4, none⟩ = some (.int .u32 (re.toNat : Int)) := cell_of HCX.out 4
      have t5 : X.cell? ⟨q2, 5, none⟩ = some (.int .u32 (rf.toNat : Int)) := cell_of HCX.out 5
      have t6 : X.cell? ⟨q2, 6, none⟩ = some (.int .u32 (rg.toNat : Int)) := cell_of HCX.out 6
      have t7 : X.cell? ⟨q2, 7, none⟩ = some (.int .u32 (rh.toNat : Int)) := cell_of HCX.out 7
      have hs2 : q2 < X.heap.size := lt_of_block HCX.out
      have hRl := (Later.rules X).1
      go_wp2_with fail
      refine wp_region_later (by kernel_rfl) (by kernel_rfl) ?_
      repeat (refine wpQuiet_step (fun K hK => ?_); go_simp; first | (refine hK _ ?_; clear hK K) | (apply Exists.intro; refine ⟨fun g => ?_, hK _ ?_⟩; (first | (go_at_call 25; with_reducible exact Later.call (R2.out _)) | (go_at_call 25; with_reducible exact Later.call (R13.out _)) | (go_at_call 25; with_reducible exact Later.call (R22.out _))); clear hK K))
      refine wpQuiet_nil ?_
      intro V hV0
      obtain ⟨gl, hV⟩ := hV0
      have HKV : Hid (Keep (fun i => i = q2) Y V) := hV ▸ HKX.out.trans (gl.keep.mono (fun _ h => h.elim))
      have HCV : Hid (V.heap[q2]? = some (.cells (H8.mk ra rb rc rd re rf rg rh).cs.toArray 38 (0, 0))) := hV ▸ gl.keep.heap HCX.out (fun h => h)
      clear hV gl hRl hs2 t0 t1 t2 t3 t4 t5 t6 t7 R2 R13 R22 g1 g2 g3 g4 g5 g6 g7 g8
      have t0 : V.cell? ⟨q2, 0, none⟩ = some (.int .u32 (ra.toNat : Int)) := cell_of HCV.out 0
      have t1 : V.cell? ⟨q2, 1, none⟩ = some (.int .u32 (rb.toNat : Int)) := cell_of HCV.out 1
      have t2 : V.cell? ⟨q2, 2, none⟩ = some (.int .u32 (rc.toNat : Int)) := cell_of HCV.out 2
      have t3 : V.cell? ⟨q2, 3, none⟩ = some (.int .u32 (rd.toNat : Int)) := cell_of HCV.out 3
      have t4 : V.cell? ⟨q2, 4, none⟩ = some (.int .u32 (re.toNat : Int)) := cell_of HCV.out 4
      have t5 : V.cell? ⟨q2, 5, none⟩ = some (.int .u32 (rf.toNat : Int)) := cell_of HCV.out 5
      have t6 : V.cell? ⟨q2, 6, none⟩ = some (.int .u32 (rg.toNat : Int)) := cell_of HCV.out 6
      have t7 : V.cell? ⟨q2, 7, none⟩ = some (.int .u32 (rh.toNat : Int)) := cell_of HCV.out 7
      have hv2 := HCV.out
      have hone := cs_one (H8.mk c9 ra rb rc c0 re rf rg)
      have hi := HI.out (H8.mk c9 ra rb rc c0 re rf rg)
      go_wp2_with (refine wpList_store_row rfl 38 (.tmp 6) (.tmp 101) rfl q2 (H8.mk c9 ra rb rc c0 re rf rg).cs.toArray rfl rfl 38 _ hv2 hi rfl hone ?_)
      exact ⟨⟨n + 1, _, by omega, by go_num, HRN.out, HKV.out.trans (Keep.row _), setRow_heap _ _ _ _ 38 (0, 0) hv2⟩, by simp [intOf]; omega⟩
    · have hrt : r = t := by rw [HR.out, ← ht.out, show n = 64 by omega]
      have hge : ¬ (n : Int) < 64 := by omega
      subst hrt
      have H0 : Hid (Keep (fun _ => False) w wr) := HYK.out.step HK.out (fun i hi => .inr (by subst hi; exact hqw))
      have H1 : Hid (wr.heap[q]? = some (.cells (s.part r 0).toArray 38 (0, 0))) := HK.out.heap HY0.out (by omega)
      have H2 : Hid (wr.heap[q + 1]? = some (.cells (List.replicate 8 (Value.int .u32 0)).toArray 38 (0, 0))) := HK.out.heap HY1.out (by omega)
      have H3 := Lib.hid HC.out
      clear HR hlt hn HK HC HY2 HY0 HY1 HYG HCUR
      go_wp2_with fail
      clear hge
      go_loopw [10] (fun t10 wr => ∃ n : Nat, n ≤ 8 ∧ t10 = .int .i64 n ∧ Keep (fun _ => False) w wr ∧ wr.heap[q]? = some (.cells (s.part r n).toArray 38 (0, 0)) ∧ wr.heap[q + 1]? = some (.cells (List.replicate 8 (Value.int .u32 0)).toArray 38 (0, 0)) ∧ wr.heap[q2]? = some (.cells r.cs.toArray 38 (0, 0))) (fun t10 _ => 8 - (intOf t10).toNat)
      case atStart => exact ⟨0, by omega, rfl, H0.out, H1.out, H2.out, H3.out⟩
      case round =>
        obtain ⟨n, hn, rfl, hk, h1, h2, h3⟩ := hrel
        have HK := Lib.hid hk
        have H1 := Lib.hid h1
        have H2 := Lib.hid h2
        have H3 := Lib.hid h3
        clear hk h1 h2 h3
        by_cases hlt : n < 8
        · have hlt' : (n : Int) < 8 := by omega
          have c0 : wr.cell? ⟨q, n, none⟩ = some (.int .u32 ((s.get n).toNat : Int)) := (cell_of H1.out n).trans (by rw [List.getElem?_toArray, part_at _ _ _ hlt])
          have c1 : wr.cell? ⟨q2, n, none⟩ = some (.int .u32 ((r.get n).toNat : Int)) := (cell_of H3.out n).trans (by rw [List.getElem?_toArray, cs_at _ _ hlt])
          have fz : wr.frozen? ⟨q, n, none⟩ = false := free_of H1.out n
          have hz := v_add (s.get n) (r.get n)
          have HST := Lib.hid (part_set s r n hlt)
          generalize s.get n + r.get n = z at *
          generalize s.get n = y0 at *
          generalize r.get n = y1 at *
          go_wp2_with fail
          go_still_tail 9, (by kernel_rfl)
          go_wp2_with fail
          have kk1 : Keep (fun i => i = q) wr (wr.setCell ⟨q, n, none⟩ (.int .u32 (z.toNat : Int))) := Keep.setCell wr _ rfl
          have kk2 := kk1.drewNR 1
          refine ⟨⟨n + 1, by omega, by go_num, (HK.out.setNew (by rw [HQ.out]; exact Nat.le_refl _) _).drewNR 1, ?_, kk2.heap H2.out (by omega), kk2.heap H3.out (by omega)⟩, by simp [intOf]; omega⟩
          show (wr.setCell ⟨q, n, none⟩ (.int .u32 (z.toNat : Int))).heap[q]? = _
          rw [heap_setCell_at H1.out, List.setIfInBounds_toArray, HST.out]
        · have hge : ¬ (n : Int) < 8 := by omega
          obtain ⟨cs, hcs⟩ : ∃ cs, s.add r = cs := ⟨_, rfl⟩
          have hw := H1.out
          rw [show n = 8 by omega, part8, hcs] at hw
          have hr := H2.out
          have HCS := Lib.hid hcs
          have hi := HI.out cs
          have hone := cs_one cs
          have hold : (List.replicate 8 (Value.int .u32 0)).toArray.size = cs.cs.toArray.size := rfl
          have HF : Hid (Keep (fun _ => False) w (wr.setRow (q + 1) cs.cs.toArray)) := HK.out.rowNew (by rw [HQ.out]; omega) _
          have hfin := setRow_heap wr (q + 1) _ cs.cs.toArray 38 (0, 0) hr
          clear H1 H2 H3 HK hlt hn hcs
          go_wp2_with (first | refine wpList_load_row rfl 38 (.tmp 2) rfl q rfl 38 cs.cs.toArray (0, 0) _ hw Tryd.underlying38 rfl hi ?_ | refine wpList_store_row rfl 38 (.tmp 4) (.tmp 115) rfl (q + 1) cs.cs.toArray rfl rfl 38 _ hr hi hold hone ?_)
          exact bodyPost_ret (results_cell_row Tryd.results19 _ _ (q + 1) 38 _ _ _ rfl hfin Tryd.underlying38 rfl hi) rfl ⟨by rw [HCS.out], HF.out⟩
theorem block_any (s : H8) (w : World) (b1 o1 cap : Nat) (b : List UInt8) (hb : b.length = 64) (hbl : Bl w (some ⟨b1, o1, none⟩) b) : Calls Tryd.prog 19 #[.agg s.cs.toArray, .slice (some ⟨b1, o1, none⟩) 64 cap] w fun e w' => e = .returned (.agg (mixed s b).cs.toArray) ∧ Keep (fun _ => False) w w' :=
  block_to s w b1 o1 cap b hb hbl _ (Lib.hid rfl) _ (Lib.hid rfl)
end Go.Proofs.YtoeniimgbinflaaDoor
