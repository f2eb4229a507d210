/- The reference: the rounds' constants, the words of a block. -/
import Derived.Test.YtoeniimgbinflaaDoorS10
namespace Go.Proofs.YtoeniimgbinflaaDoor
open Go.RowKit
def KV : List Value := KT.map fun (k : Nat) => Value.int .u32 (k : Int)
theorem kv_at (i : Nat) (h : i < 64) : KV[i]? = some (kk i).v := by
  have h2 : KT.length = 64 := rfl
  have h3 : ∀ j : Fin 64, (kk j.val).toNat = KT.getD j.val 0 := by decide +kernel
  have h4 := h3 ⟨i, h⟩
  dsimp only at h4
  unfold KV W32.v
  rw [List.getElem?_map, List.getElem?_eq_getElem (by omega), h4, List.getD_eq_getElem?_getD, List.getElem?_eq_getElem (by omega)]
  rfl
set_option maxRecDepth 100000 in
theorem k_any (i : Nat) (h : i < 64) (w : World) : Calls Tryd.prog 26 #[.int .i64 (i : Int)] w fun e w' => e = .returned (kk i).v ∧ Keep (fun _ => False) w w' := by
  obtain ⟨q, hq⟩ : ∃ q, w.heap.size = q := ⟨_, rfl⟩
  have hi : (i : Int) < 64 := by omega
  obtain ⟨X, hX⟩ : ∃ X, w.alloc (.cells KV.toArray 37) = X := ⟨_, rfl⟩
  have HX : Hid (Keep (fun _ => False) w X) := by rw [← hX]; exact Keep.alloc _ _ _
  have hc : X.cell? ⟨q, i, none⟩ = some (.int .u32 ((kk i).toNat : Int)) := by
    rw [← hX, ← hq, cell_of (heap_alloc_new _ _), List.getElem?_toArray, kv_at i h]
  generalize kk i = kv at *
  go_enter Tryd.func26, Tryd.ntmps26
  go_upto_region 2 with fail
  rw [show ((Value.int IntKind.u32 1116352408 :: Value.int IntKind.u32 1899447441 :: Value.int IntKind.u32 3049323471 :: Value.int IntKind.u32 3921009573 :: Value.int IntKind.u32 961987163 :: Value.int IntKind.u32 1508970993 :: Value.int IntKind.u32 2453635748 :: Value.int IntKind.u32 2870763221 :: Value.int IntKind.u32 3624381080 :: Value.int IntKind.u32 310598401 :: Value.int IntKind.u32 607225278 :: Value.int IntKind.u32 1426881987 :: Value.int IntKind.u32 1925078388 :: Value.int IntKind.u32 2162078206 :: Value.int IntKind.u32 2614888103 :: Value.int IntKind.u32 3248222580 :: Value.int IntKind.u32 3835390401 :: Value.int IntKind.u32 4022224774 :: Value.int IntKind.u32 264347078 :: Value.int IntKind.u32 604807628 :: Value.int IntKind.u32 770255983 :: Value.int IntKind.u32 1249150122 :: Value.int IntKind.u32 1555081692 :: Value.int IntKind.u32 1996064986 :: Value.int IntKind.u32 2554220882 :: Value.int IntKind.u32 2821834349 :: Value.int IntKind.u32 2952996808 :: Value.int IntKind.u32 3210313671 :: Value.int IntKind.u32 3336571891 :: Value.int IntKind.u32 3584528711 :: Value.int IntKind.u32 113926993 :: Value.int IntKind.u32 338241895 :: Value.int IntKind.u32 666307205 :: Value.int IntKind.u32 773529912 :: Value.int IntKind.u32 1294757372 :: Value.int IntKind.u32 1396182291 :: Value.int IntKind.u32 1695183700 :: Value.int IntKind.u32 1986661051 :: Value.int IntKind.u32 2177026350 :: Value.int IntKind.u32 2456956037 :: Value.int IntKind.u32 2730485921 :: Value.int IntKind.u32 2820302411 :: Value.int IntKind.u32 3259730800 :: Value.int IntKind.u32 3345764771 :: Value.int IntKind.u32 3516065817 :: Value.int IntKind.u32 3600352804 :: Value.int IntKind.u32 4094571909 :: Value.int IntKind.u32 275423344 :: Value.int IntKind.u32 430227734 :: Value.int IntKind.u32 506948616 :: Value.int IntKind.u32 659060556 :: Value.int IntKind.u32 883997877 :: Value.int IntKind.u32 958139571 :: Value.int IntKind.u32 1322822218 :: Value.int IntKind.u32 1537002063 :: Value.int IntKind.u32 1747873779 :: Value.int IntKind.u32 1955562222 :: Value.int IntKind.u32 2024104815 :: Value.int IntKind.u32 2227730452 :: Value.int IntKind.u32 2361852424 :: Value.int IntKind.u32 2428436474 :: Value.int IntKind.u32 2756734187 :: Value.int IntKind.u32 3204031479 :: Value.int IntKind.u32 3329325298 :: [] : List Value).toArray) = KV.toArray from rfl, hX]
  clear hX
  go_wp2_with fail
  exact bodyPost_ret (results_tmp Tryd.results26 _ _ _) rfl ⟨rfl, HX.out⟩
theorem info37 : ∃ i, Tryd.prog.info? 37 = some i ∧ i.zero = some (.int .u32 0) ∧ i.bytes = 4 ∧ i.size = 1 := by
  have h : (Tryd.prog.info? 37).map (fun i => (i.zero, i.bytes, i.size)) = some (some (.int .u32 0), 4, 1) := by kernel_rfl
  obtain ⟨i, hi, he⟩ := Option.map_eq_some_iff.1 h
  simp only [Prod.mk.injEq] at he
  exact ⟨i, hi, he.1, he.2.1, he.2.2⟩
theorem one_cell {w : World} {b : Nat} {x : Value} {t : TypeId} (h : w.heap[b]? = some (.cells #[x] t (0, 0))) : ∀ j u, [x][j]? = some u → w.cell? ((⟨b, 0, none⟩ : Addr).add j) = some u := by
  intro j u hj
  rw [add_none, Nat.zero_add, cell_of h]
  match j, hj with
  | 0, hj => simpa using hj
  | n + 1, hj => simp at hj
/-- The words of an own row, cell by cell. -/
theorem own_word {w : World} {base n : Nat} {a : Option Addr} {cap : Nat} {ws : List W32} (h : w.ownsRow base 37 1 (.slice a n cap) n (ws.map W32.v)) (i : Nat) (hi : i < n) : ∃ g, a = some ⟨g, 0, none⟩ ∧ base ≤ g ∧ w.cell? ⟨g, i, none⟩ = some (.int .u32 ((ws.getD i 0).toNat : Int)) := by
  have hl : ws.length = n := by have := h.1; simpa using this
  rcases h.2 with ⟨hv, hn⟩ | ⟨g, cap', cur, hv, hb, hg, hc, hm, hs, ht⟩
  · omega
  · simp only [Value.slice.injEq] at hv
    obtain ⟨rfl, _, rfl⟩ := hv
    refine ⟨g, rfl, hb, ?_⟩
    have h1 : (cur.toList.take (n * 1))[i]? = some (ws.getD i 0).v := by
      rw [ht, List.getElem?_map, List.getD_eq_getElem?_getD, List.getElem?_eq_getElem (by omega)]; rfl
    rw [List.getElem?_take, if_pos (by omega)] at h1
    rw [cell_of hg]
    simpa using h1
set_option maxHeartbeats 4000000 in
set_option maxRecDepth 100000 in
theorem words_to (w : World) (b1 o1 : Nat) (cap : Nat) (b : List UInt8) (hb : b.length = 64) (hbl : Bl w (some ⟨b1, o1, none⟩) b) (ws : List W32) (hws : Hid (wl b 64 = ws)) : Calls Tryd.prog 24 #[.slice (some ⟨b1, o1, none⟩) 64 cap] w fun e w' => ∃ a cap', e = .returned (.slice a 64 cap') ∧ w'.ownsRow w.heap.size 37 1 (.slice a 64 cap') 64 (ws.map W32.v) ∧ Keep (fun _ => False) w w' := by
  obtain ⟨q, hq⟩ : ∃ q, w.heap.size = q := ⟨_, rfl⟩
  have HQ := Lib.hid hq
  have HB := Lib.hid hbl
  obtain ⟨ii, hi5, hz5, hby5, hs5⟩ := info37
  rw [hq]
  clear hbl hq
  go_enter Tryd.func24, Tryd.ntmps24
  go_wp2_with fail
  go_loopw [3, 4] (fun t3 t4 wr => ∃ (n : Nat) (a : Option Addr) (cap : Nat), n ≤ 64 ∧ t4 = .int .i64 n ∧ t3 = .slice a n cap ∧ Keep (fun _ => False) w wr ∧ wr.ownsRow q 37 1 (.slice a n cap) n ((wl b n).map W32.v)) (fun _ t4 _ => 64 - (intOf t4).toNat)
  case atStart => exact ⟨0, none, 0, by omega, rfl, rfl, Keep.refl _ _, World.ownsRow_nil _ _ _ _⟩
  case round =>
    obtain ⟨n, a, cp, hn, rfl, rfl, hk, ho⟩ := hrel
    have HK := Lib.hid hk
    have HO := Lib.hid ho
    clear hk ho
    by_cases hlt : n < 64
    · have hlt' : (n : Int) < 64 := by omega
      by_cases h16 : n < 16
      · have h16' : (n : Int) < 16 := by omega
        obtain ⟨m, hm⟩ : ∃ m, 4 * n = m := ⟨_, rfl⟩
        have hcell : ∀ j, j < 64 → wr.cell? ⟨b1, o1 + j, none⟩ = some (.int .u8 ((b.getD j 0).toNat : Int)) := fun j hj => by
          obtain ⟨b', o', e, hc⟩ := (HB.out.keep0 HK.out) j _ (List.getElem?_eq_getElem (by omega))
          simp only [Option.some.injEq, Addr.mk.injEq] at e
          obtain ⟨rfl, rfl, _⟩ := e
          rw [hc, List.getD_eq_getElem?_getD, List.getElem?_eq_getElem (by omega)]; rfl
        have a0 := hcell (4 * n) (by omega)
        have a1 := hcell (4 * n + 1) (by omega)
        have a2 := hcell (4 * n + 2) (by omega)
        have a3 := hcell (4 * n + 3) (by omega)
        have w0 : IntKind.i64.wrap (4 * (n : Int)) = m := by rw [i64_in _ (by omega)]; omega
        have w1 : IntKind.i64.wrap ((m : Int) + 1) = m + 1 := by rw [i64_in _ (by omega)]
        have w2 : IntKind.i64.wrap ((m : Int) + 2) = m + 2 := by rw [i64_in _ (by omega)]
        have w3 : IntKind.i64.wrap ((m : Int) + 3) = m + 3 := by rw [i64_in _ (by omega)]
        have hm0 : (m : Int) < 64 := by omega
        have hm1 : (m : Int) + 1 < 64 := by omega
        have hm2 : (m : Int) + 2 < 64 := by omega
        have hm3 : (m : Int) + 3 < 64 := by omega
        have t2 : ((m : Int) + 2).toNat = m + 2 := by omega
        have t3 : ((m : Int) + 3).toNat = m + 3 := by omega
        have hp1 : 0 ≤ (m : Int) + 1 := by omega
        have hp2 : 0 ≤ (m : Int) + 2 := by omega
        have hp3 : 0 ≤ (m : Int) + 3 := by omega
        obtain ⟨x0, x1, x2, x3, y0, y1, y2, z1, z2, z3, e0, e1, e2, e3, f0, f1, f2, g1, g2, g3, hw⟩ := word_steps (b.getD (4 * n) 0) (b.getD (4 * n + 1) 0) (b.getD (4 * n + 2) 0) (b.getD (4 * n + 3) 0)
        have HW : Hid (nxt b n (wl b n) = z3) := by unfold nxt wd; rw [if_pos h16]; exact hw
        clear hw hcell
        generalize b.getD (4 * n) 0 = c0 at *
        generalize b.getD (4 * n + 1) 0 = c1 at *
        generalize b.getD (4 * n + 2) 0 = c2 at *
        generalize b.getD (4 * n + 3) 0 = c3 at *
        rw [hm] at a0 a1 a2 a3
        have hbs := World.block_lt_of_cell? wr _ a0
        dsimp only at hbs
        have hRl := (Later.rules wr).1
        have HM := Lib.hid hm
        clear hm
        go_wp2_with fail
        refine wp_region_later_from 1 34 (by kernel_rfl) (by kernel_rfl) (fun _ _ d _ _ h => by cases d <;> exact h) ?_
        simp only [List.take_succ_cons, List.take_zero, List.drop_succ_cons, List.drop_zero]
        repeat (refine wpMoves_step (fun K hK => ?_); go_simp; refine hK _ ?_; clear hK K)
        refine wpMoves_nil ?_
        repeat (refine wpQuiet_step (fun K hK => ?_); go_simp; first | (refine hK _ ?_; clear hK K) | (apply Exists.intro; refine ⟨fun _ => ?_, hK _ ?_⟩; (fail); clear hK K))
        refine wpQuiet_nil ?_
        intro Y hY0
        obtain ⟨g0, hY⟩ := hY0
        have HKY : Hid (Keep (fun _ => False) w Y) := hY ▸ HK.out.trans g0.keep
        have HOY : Hid (Y.ownsRow q 37 1 (.slice a n cp) n ((wl b n).map W32.v)) := hY ▸ ownsRow_keep HO.out g0.keep (fun _ _ _ h => h)
        have hbase : q ≤ (Y.alloc (.cells #[.int .u32 (z3.toNat : Int)] 37)).heap.size := Nat.le_trans (by rw [← HQ.out]; exact HKY.out.size) (by simp : Y.heap.size ≤ _)
        clear hY g0 hRl HK HO w0 w1 w2 w3 t2 t3 a0 a1 a2 a3 hbs
        go_wp2_with (at_builtin; refine wpList_append_lies _ rfl _ _ 57 rfl q 37 ii (.int .u32 0) 1 4 Tryd.underlying57 hi5 hz5 hs5 hby5 rfl (by decide) _ _ _ rfl (HOY.out.alloc _) ⟨Y.heap.size, 0, none⟩ 1 1 [.int .u32 (z3.toNat : Int)] rfl rfl (one_cell (heap_alloc_new _ _)) (by intro u hu; simp only [List.mem_cons, List.not_mem_nil, or_false] at hu; subst hu; rfl) (by decide) ?c3 ?c4 hbase _ rfl ?_)
        case c3 => unfold maxLen; omega
        case c4 => omega
        intro g cap' W5 hown hgrow hat hlt5
        have HK5 : Hid (Keep (fun _ => False) w W5) := (HKY.out.allocR _).own (by rw [HQ.out]; exact HOY.out.alloc _) hgrow
        have HO5 : Hid (W5.ownsRow q 37 1 (.slice (some ⟨g, 0, none⟩) (n + 1) cap') (n + 1) ((wl b (n + 1)).map W32.v)) := by
          rw [wl, HW.out, List.map_append]; exact hown
        clear hown hgrow hat hlt5
        go_wp2_with fail
        go_roundw
        case rel => exact ⟨n + 1, some ⟨g, 0, none⟩, cap', by omega, by go_num, rfl, HK5.out, HO5.out⟩
        case measure => simp [intOf]; omega
      · have h16' : ¬ (n : Int) < 16 := by omega
        obtain ⟨m15, hm15⟩ : ∃ m, n - 15 = m := ⟨_, rfl⟩
        obtain ⟨m2, hm2⟩ : ∃ m, n - 2 = m := ⟨_, rfl⟩
        obtain ⟨m16, hm16⟩ : ∃ m, n - 16 = m := ⟨_, rfl⟩
        obtain ⟨m7, hm7⟩ : ∃ m, n - 7 = m := ⟨_, rfl⟩
        obtain ⟨g, hg, hgq, c0⟩ := own_word HO.out m15 (by omega)
        obtain ⟨g', hg', _, c1⟩ := own_word HO.out m2 (by omega)
        obtain rfl : g = g' := by rw [hg] at hg'; simpa using hg'
        obtain ⟨g', hg', _, c2⟩ := own_word HO.out m16 (by omega)
        obtain rfl : g = g' := by rw [hg] at hg'; simpa using hg'
        obtain ⟨g', hg', _, c3⟩ := own_word HO.out m7 (by omega)
        obtain rfl : g = g' := by rw [hg] at hg'; simpa using hg'
        subst hg
        clear hg'
        obtain ⟨r1, r2, p1, p2, p3, r3, r4, q1, q2, q3, z1, z2, z3, e1, e2, f1, f2, f3, e3, e4, g1, g2, g3, h1, h2, h3, hw⟩ := ext_steps ((wl b n).getD m15 0) ((wl b n).getD m2 0) ((wl b n).getD m16 0) ((wl b n).getD m7 0)
        have HW : Hid (nxt b n (wl b n) = z3) := by unfold nxt; rw [if_neg h16, hm15, hm2, hm16, hm7]; exact hw
        clear hw
        generalize (wl b n).getD m15 0 = x at *
        generalize (wl b n).getD m2 0 = y at *
        generalize (wl b n).getD m16 0 = u at *
        generalize (wl b n).getD m7 0 = v at *
        have R7 : Hid (∀ W, Calls Tryd.prog 25 #[.int .u32 (x.toNat : Int), .int .i64 7] W fun e w' => e = .returned (.int .u32 (r1.toNat : Int)) ∧ Keep (fun _ => False) W w') := fun W => by rw [← e1]; exact (turn_any x 7 (by decide) (by decide) W).mono fun _ _ ⟨a, b⟩ => ⟨a, by subst b; exact Keep.refl _ _⟩
        have R18 : Hid (∀ W, Calls Tryd.prog 25 #[.int .u32 (x.toNat : Int), .int .i64 18] W fun e w' => e = .returned (.int .u32 (r2.toNat : Int)) ∧ Keep (fun _ => False) W w') := fun W => by rw [← e2]; exact (turn_any x 18 (by decide) (by decide) W).mono fun _ _ ⟨a, b⟩ => ⟨a, by subst b; exact Keep.refl _ _⟩
        have R17 : Hid (∀ W, Calls Tryd.prog 25 #[.int .u32 (y.toNat : Int), .int .i64 17] W fun e w' => e = .returned (.int .u32 (r3.toNat : Int)) ∧ Keep (fun _ => False) W w') := fun W => by rw [← e3]; exact (turn_any y 17 (by decide) (by decide) W).mono fun _ _ ⟨a, b⟩ => ⟨a, by subst b; exact Keep.refl _ _⟩
        have R19 : Hid (∀ W, Calls Tryd.prog 25 #[.int .u32 (y.toNat : Int), .int .i64 19] W fun e w' => e = .returned (.int .u32 (r4.toNat : Int)) ∧ Keep (fun _ => False) W w') := fun W => by rw [← e4]; exact (turn_any y 19 (by decide) (by decide) W).mono fun _ _ ⟨a, b⟩ => ⟨a, by subst b; exact Keep.refl _ _⟩
        have k15 : IntKind.i64.wrap ((n : Int) - 15) = (m15 : Int) := by rw [i64_in _ (by omega)]; omega
        have j15 : wrap64 ((n : Int) - 15) = (m15 : Int) := by unfold wrap64; omega
        have b15 : (m15 : Int) < n := by omega
        have k2 : IntKind.i64.wrap ((n : Int) - 2) = (m2 : Int) := by rw [i64_in _ (by omega)]; omega
        have j2 : wrap64 ((n : Int) - 2) = (m2 : Int) := by unfold wrap64; omega
        have b2 : (m2 : Int) < n := by omega
        have k16 : IntKind.i64.wrap ((n : Int) - 16) = (m16 : Int) := by rw [i64_in _ (by omega)]; omega
        have j16 : wrap64 ((n : Int) - 16) = (m16 : Int) := by unfold wrap64; omega
        have b16 : (m16 : Int) < n := by omega
        have k7 : IntKind.i64.wrap ((n : Int) - 7) = (m7 : Int) := by rw [i64_in _ (by omega)]; omega
        have j7 : wrap64 ((n : Int) - 7) = (m7 : Int) := by unfold wrap64; omega
        have b7 : (m7 : Int) < n := by omega
        have HM := Lib.hid (And.intro hm15 (And.intro hm2 (And.intro hm16 hm7)))
        have hgs := World.block_lt_of_cell? wr _ c0
        dsimp only at hgs
        have hRl := (Later.rules wr).1
        clear hm15 hm2 hm16 hm7 e1 e2 e3 e4
        go_wp2_with fail
        refine wp_region_later_from 1 30 (by kernel_rfl) (by kernel_rfl) (fun _ _ d _ _ h => by cases d <;> exact h) ?_
        simp only [List.take_succ_cons, List.take_zero, List.drop_succ_cons, List.drop_zero]
        repeat (refine wpMoves_step (fun K hK => ?_); go_simp; refine hK _ ?_; clear hK K)
        refine wpMoves_nil ?_
        repeat (refine wpQuiet_step (fun K hK => ?_); go_simp; first | (refine hK _ ?_; clear hK K) | (apply Exists.intro; refine ⟨fun g => ?_, hK _ ?_⟩; (first | (go_at_call 25; with_reducible exact Later.call (R7.out _)) | (go_at_call 25; with_reducible exact Later.call (R18.out _)) | (go_at_call 25; with_reducible exact Later.call (R17.out _)) | (go_at_call 25; with_reducible exact Later.call (R19.out _))); clear hK K))
        refine wpQuiet_nil ?_
        intro Y hY0
        obtain ⟨g0, hY⟩ := hY0
        have HKY : Hid (Keep (fun _ => False) w Y) := hY ▸ HK.out.trans g0.keep
        have HOY : Hid (Y.ownsRow q 37 1 (.slice (some ⟨g, 0, none⟩) n cp) n ((wl b n).map W32.v)) := hY ▸ ownsRow_keep HO.out g0.keep (fun _ _ _ h => h)
        have hbase : q ≤ (Y.alloc (.cells #[.int .u32 (z3.toNat : Int)] 37)).heap.size := Nat.le_trans (by rw [← HQ.out]; exact HKY.out.size) (by simp : Y.heap.size ≤ _)
        clear hY g0 hRl HK HO k15 j15 k2 j2 k16 j16 k7 j7 c0 c1 c2 c3 hgs
        go_wp2_with (at_builtin; refine wpList_append_lies _ rfl _ _ 57 rfl q 37 ii (.int .u32 0) 1 4 Tryd.underlying57 hi5 hz5 hs5 hby5 rfl (by decide) _ _ _ rfl (HOY.out.alloc _) ⟨Y.heap.size, 0, none⟩ 1 1 [.int .u32 (z3.toNat : Int)] rfl rfl (one_cell (heap_alloc_new _ _)) (by intro u hu; simp only [List.mem_cons, List.not_mem_nil, or_false] at hu; subst hu; rfl) (by decide) ?c3 ?c4 hbase _ rfl ?_)
        case c3 => unfold maxLen; omega
        case c4 => omega
        intro g' cap' W5 hown hgrow hat hlt5
        have HK5 : Hid (Keep (fun _ => False) w W5) := (HKY.out.allocR _).own (by rw [HQ.out]; exact HOY.out.alloc _) hgrow
        have HO5 : Hid (W5.ownsRow q 37 1 (.slice (some ⟨g', 0, none⟩) (n + 1) cap') (n + 1) ((wl b (n + 1)).map W32.v)) := by
          rw [wl, HW.out, List.map_append]; exact hown
        clear hown hgrow hat hlt5
        go_wp2_with fail
        go_roundw
        case rel => exact ⟨n + 1, some ⟨g', 0, none⟩, cap', by omega, by go_num, rfl, HK5.out, HO5.out⟩
        case measure => simp [intOf]; omega
    · have hge : ¬ (n : Int) < 64 := by omega
      have he : n = 64 := by omega
      subst he
      have hoo := HO.out
      rw [hws.out] at hoo
      have HOO := Lib.hid hoo
      clear HO hoo hlt hn
      go_wp2_with fail
      exact bodyPost_ret (results_tmp Tryd.results24 _ _ _) rfl ⟨a, cp, rfl, HOO.out, HK.out⟩
theorem words_any (w : World) (b1 o1 : Nat) (cap : Nat) (b : List UInt8) (hb : b.length = 64) (hbl : Bl w (some ⟨b1, o1, none⟩) b) : Calls Tryd.prog 24 #[.slice (some ⟨b1, o1, none⟩) 64 cap] w fun e w' => ∃ a cap', e = .returned (.slice a 64 cap') ∧ w'.ownsRow w.heap.size 37 1 (.slice a 64 cap') 64 ((wl b 64).map W32.v) ∧ Keep (fun _ => False) w w' :=
  words_to w b1 o1 cap b hb hbl _ (Lib.hid rfl)
end Go.Proofs.YtoeniimgbinflaaDoor
