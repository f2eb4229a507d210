/- The words of a block. -/
import Derived.Test.YtoeniimgbinflaaDoorS1
import Derived.Deep.MidRow
import Derived.StillTailTactics
namespace Go.Proofs.YtoeniimgbinflaaDoor
open Go.RowKit
theorem i64_in (n : Int) (h : -9223372036854775808 ≤ n ∧ n ≤ 9223372036854775807) : IntKind.i64.wrap n = n := by simp only [IntKind.wrap, IntKind.bits, IntKind.signed]; simp; omega
def bv (b : List UInt8) : List Value := b.map fun x => .int .u8 (x.toNat : Int)
theorem bv_at (b : List UInt8) (i : Nat) (h : i < b.length) : (bv b)[i]? = some (.int .u8 ((b.getD i 0).toNat : Int)) := by
  unfold bv
  rw [List.getElem?_map, List.getElem?_eq_getElem h, List.getD_eq_getElem?_getD, List.getElem?_eq_getElem h]
  rfl
theorem bv_length (b : List UInt8) : (bv b).length = b.length := by simp [bv]
/-- What lies there of the words as long as n are made. -/
def sp (b : List UInt8) (n : Nat) : List Value := (wl b n).map W32.v ++ List.replicate (64 - n) (.int .u32 0)
theorem sp_length (b : List UInt8) (n : Nat) (h : n ≤ 64) : (sp b n).length = 64 := by simp [sp, wl_length]; omega
theorem sp_set (b : List UInt8) (n : Nat) (h : n < 64) : (sp b n).set n (nxt b n (wl b n)).v = sp b (n + 1) := by
  unfold sp
  rw [List.set_append_right _ _ (by simp [wl_length]), wl, List.map_append]
  simp only [List.length_map, wl_length, Nat.sub_self]
  rw [show 64 - n = (64 - (n + 1)) + 1 by omega, List.replicate_succ]
  simp
theorem sp_at (b : List UInt8) (n i : Nat) (h : i < n) : (sp b n)[i]? = some ((wl b n).getD i 0).v := by
  unfold sp
  rw [List.getElem?_append_left (by simp [wl_length, h]), List.getElem?_map, List.getD_eq_getElem?_getD, List.getElem?_eq_getElem (by rw [wl_length]; exact h)]
  rfl
theorem v_b8 (c : UInt8) : IntKind.u32.wrap (c.toNat : Int) = ((b8 c).toNat : Int) := by
  have := UInt8.toNat_lt c
  rw [IntKind.wrap_u32']; unfold b8; rw [BitVec.toNat_ofNat]; omega
theorem sp_full (b : List UInt8) : sp b 64 = (wl b 64).map W32.v := by unfold sp; rw [Nat.sub_self, List.replicate_zero, List.append_nil]
theorem sp_one (b : List UInt8) (n : Nat) : (sp b n).toArray.all (·.oneCell') = true := by
  refine Array.all_eq_true_iff_forall_mem.2 fun v hv => ?_
  simp only [List.mem_toArray, sp, List.mem_append, List.mem_map, List.mem_replicate] at hv
  rcases hv with ⟨x, _, rfl⟩ | ⟨_, rfl⟩ <;> rfl
/-- The steps to a word out of four bytes, each by its own name. -/
theorem word_steps (c0 c1 c2 c3 : UInt8) : ∃ x0 x1 x2 x3 y0 y1 y2 o1 o2 o3 : W32, IntKind.u32.wrap (c0.toNat : Int) = x0.toNat ∧ IntKind.u32.wrap (c1.toNat : Int) = x1.toNat ∧ IntKind.u32.wrap (c2.toNat : Int) = x2.toNat ∧ IntKind.u32.wrap (c3.toNat : Int) = x3.toNat ∧
    IntKind.u32.wrap ((x0.toNat : Int) * 16777216) = y0.toNat ∧ IntKind.u32.wrap ((x1.toNat : Int) * 65536) = y1.toNat ∧ IntKind.u32.wrap ((x2.toNat : Int) * 256) = y2.toNat ∧
    bits .or .u32 (y0.toNat : Int) (y1.toNat : Int) = o1.toNat ∧ bits .or .u32 (o1.toNat : Int) (y2.toNat : Int) = o2.toNat ∧ bits .or .u32 (o2.toNat : Int) (x3.toNat : Int) = o3.toNat ∧ b8 c0 <<< 24 ||| b8 c1 <<< 16 ||| b8 c2 <<< 8 ||| b8 c3 = o3 :=
  ⟨_, _, _, _, _, _, _, _, _, _, v_b8 c0, v_b8 c1, v_b8 c2, v_b8 c3, v_shl _ 24, v_shl _ 16, v_shl _ 8, v_or _ _, v_or _ _, v_or _ _, rfl⟩
/-- The steps to a later word, each by its own name. -/
theorem ext_steps (x y u v : W32) : ∃ r1 r2 p1 p2 p3 r3 r4 q1 q2 q3 z1 z2 z3 : W32, rr x 7 = r1 ∧ rr x 18 = r2 ∧ bits .xor .u32 (r1.toNat : Int) (r2.toNat : Int) = p1.toNat ∧ (x.toNat : Int) / 8 = p2.toNat ∧ bits .xor .u32 (p1.toNat : Int) (p2.toNat : Int) = p3.toNat ∧
    rr y 17 = r3 ∧ rr y 19 = r4 ∧ bits .xor .u32 (r3.toNat : Int) (r4.toNat : Int) = q1.toNat ∧ (y.toNat : Int) / 1024 = q2.toNat ∧ bits .xor .u32 (q1.toNat : Int) (q2.toNat : Int) = q3.toNat ∧
    IntKind.u32.wrap ((u.toNat : Int) + p3.toNat) = z1.toNat ∧ IntKind.u32.wrap ((z1.toNat : Int) + v.toNat) = z2.toNat ∧ IntKind.u32.wrap ((z2.toNat : Int) + q3.toNat) = z3.toNat ∧ u + s0 x + v + s1 y = z3 :=
  ⟨_, _, _, _, _, _, _, _, _, _, _, _, _, rfl, rfl, v_xor _ _, v_shr x 3, v_xor _ _, rfl, rfl, v_xor _ _, v_shr y 10, v_xor _ _, v_add _ _, v_add _ _, v_add _ _, rfl⟩
/-- The two blocks that the call makes: the bytes, the words. -/
structure SpAt (w wr : World) (q : Nat) (b : List UInt8) (n : Nat) : Prop where
  keep : Keep (fun _ => False) w wr
  size : w.heap.size = q
  bytes : wr.heap[q]? = some (.cells (bv b).toArray 39 (0, 0))
  words : wr.heap[q + 1]? = some (.cells (sp b n).toArray 61 (0, 0))
theorem SpAt.set {w wr : World} {q : Nat} {b : List UInt8} {n : Nat} (h : SpAt w wr q b n) (hn : n < 64) : SpAt w (wr.setCell ⟨q + 1, n, none⟩ (nxt b n (wl b n)).v) q b (n + 1) := by
  have hq := h.size
  refine ⟨h.keep.setNew (by show _ ≤ q + 1; omega) _, h.size, ?_, ?_⟩
  · exact Keep.heap (Keep.setCell (S := fun i => i = q + 1) wr _ rfl) h.bytes (by omega)
  · rw [heap_setCell_at h.words, List.setIfInBounds_toArray, sp_set b n hn]
theorem SpAt.byte {w wr : World} {q : Nat} {b : List UInt8} {n : Nat} (h : SpAt w wr q b n) (i : Nat) (hi : i < b.length) : wr.cell? ⟨q, i, none⟩ = some (.int .u8 ((b.getD i 0).toNat : Int)) :=
  (cell_of h.bytes _).trans (by rw [List.getElem?_toArray, bv_at _ _ hi])
theorem SpAt.word {w wr : World} {q : Nat} {b : List UInt8} {n : Nat} (h : SpAt w wr q b n) (i : Nat) (hi : i < n) : wr.cell? ⟨q + 1, i, none⟩ = some (.int .u32 (((wl b n).getD i 0).toNat : Int)) :=
  (cell_of h.words _).trans (by rw [List.getElem?_toArray, sp_at _ _ _ hi])
theorem SpAt.rest {w wr : World} {q : Nat} {b : List UInt8} {n : Nat} (h : SpAt w wr q b n) (hn : n < 64) : wr.cell? ⟨q + 1, n, none⟩ = some (.int .u32 0) :=
  (cell_of h.words _).trans (by rw [List.getElem?_toArray]; unfold sp; rw [List.getElem?_append_right (by simp [wl_length])]; simp only [List.length_map, wl_length, Nat.sub_self]; rw [List.getElem?_replicate, if_pos (by omega)])
theorem SpAt.draws {w wr : World} {q : Nat} {b : List UInt8} {n : Nat} (h : SpAt w wr q b n) (k : Nat) : SpAt w (wr.drewN k) q b n := ⟨h.keep.drewNR k, h.size, h.bytes, h.words⟩
set_option maxHeartbeats 4000000 in
set_option maxRecDepth 100000 in
theorem spread_to (b : List UInt8) (hb : b.length = 64) (w : World) (cs : List Value) (hcs : Hid (sp b 64 = cs)) : Calls Tryd.prog 27 #[.agg (bv b).toArray] w fun e w' => e = .returned (.agg cs.toArray) ∧ Keep (fun _ => False) w w' := by
  obtain ⟨q, hq⟩ : ∃ q, w.heap.size = q := ⟨_, rfl⟩
  go_enter Tryd.func27, Tryd.ntmps27
  go_wp2_with fail
  obtain ⟨X, hX⟩ : ∃ X, (w.alloc (Obj.cells (bv b).toArray 39)).alloc (Obj.cells (sp b 0).toArray 61) = X := ⟨_, rfl⟩
  have H0 : Hid (SpAt w X q b 0) := by
    refine ⟨?_, hq, ?_, ?_⟩
    · rw [← hX]; exact (Keep.alloc _ _ _).allocR _
    · rw [← hX, ← hq]; exact Keep.heap (Keep.alloc (fun _ => False) _ _) (heap_alloc_new w _) (fun h => h)
    · rw [← hX]
      have : q + 1 = (w.alloc (Obj.cells (bv b).toArray 39)).heap.size := by simp [hq]
      rw [this]; exact heap_alloc_new _ _
  rw [show ((Value.int IntKind.u32 0 :: Value.int IntKind.u32 0 :: Value.int IntKind.u32 0 :: Value.int IntKind.u32 0 :: Value.int IntKind.u32 0 :: Value.int IntKind.u32 0 :: Value.int IntKind.u32 0 :: Value.int IntKind.u32 0 :: Value.int IntKind.u32 0 :: Value.int IntKind.u32 0 :: Value.int IntKind.u32 0 :: Value.int IntKind.u32 0 :: Value.int IntKind.u32 0 :: Value.int IntKind.u32 0 :: Value.int IntKind.u32 0 :: Value.int IntKind.u32 0 :: Value.int IntKind.u32 0 :: Value.int IntKind.u32 0 :: Value.int IntKind.u32 0 :: Value.int IntKind.u32 0 :: Value.int IntKind.u32 0 :: Value.int IntKind.u32 0 :: Value.int IntKind.u32 0 :: Value.int IntKind.u32 0 :: Value.int IntKind.u32 0 :: Value.int IntKind.u32 0 :: Value.int IntKind.u32 0 :: Value.int IntKind.u32 0 :: Value.int IntKind.u32 0 :: Value.int IntKind.u32 0 :: Value.int IntKind.u32 0 :: Value.int IntKind.u32 0 :: Value.int IntKind.u32 0 :: Value.int IntKind.u32 0 :: Value.int IntKind.u32 0 :: Value.int IntKind.u32 0 :: Value.int IntKind.u32 0 :: Value.int IntKind.u32 0 :: Value.int IntKind.u32 0 :: Value.int IntKind.u32 0 :: Value.int IntKind.u32 0 :: Value.int IntKind.u32 0 :: Value.int IntKind.u32 0 :: Value.int IntKind.u32 0 :: Value.int IntKind.u32 0 :: Value.int IntKind.u32 0 :: Value.int IntKind.u32 0 :: Value.int IntKind.u32 0 :: Value.int IntKind.u32 0 :: Value.int IntKind.u32 0 :: Value.int IntKind.u32 0 :: Value.int IntKind.u32 0 :: Value.int IntKind.u32 0 :: Value.int IntKind.u32 0 :: Value.int IntKind.u32 0 :: Value.int IntKind.u32 0 :: Value.int IntKind.u32 0 :: Value.int IntKind.u32 0 :: Value.int IntKind.u32 0 :: Value.int IntKind.u32 0 :: Value.int IntKind.u32 0 :: Value.int IntKind.u32 0 :: Value.int IntKind.u32 0 :: Value.int IntKind.u32 0 :: [] : List Value).toArray) = (sp b 0).toArray from rfl, hX]
  clear hX hq
  go_loopw [7] (fun t wr => ∃ n : Nat, n ≤ 16 ∧ t = .int .i64 n ∧ SpAt w wr q b n) (fun t _ => 16 - (intOf t).toNat)
  case atStart => exact ⟨0, by omega, rfl, H0.out⟩
  case round =>
    obtain ⟨n, hn, rfl, hs⟩ := hrel
    have HS := Lib.hid hs
    clear hs
    by_cases hlt : n < 16
    · have hlt' : (n : Int) < 16 := by omega
      obtain ⟨m, hm⟩ : ∃ m, 4 * n = m := ⟨_, rfl⟩
      have a0 := HS.out.byte (4 * n) (by omega)
      have a1 := HS.out.byte (4 * n + 1) (by omega)
      have a2 := HS.out.byte (4 * n + 2) (by omega)
      have a3 := HS.out.byte (4 * n + 3) (by omega)
      have w0 : IntKind.i64.wrap (4 * (n : Int)) = m := by rw [i64_in _ (by omega)]; omega
      have w1 : IntKind.i64.wrap ((m : Int) + 1) = m + 1 := by rw [i64_in _ (by omega)]
      have w2 : IntKind.i64.wrap ((m : Int) + 2) = m + 2 := by rw [i64_in _ (by omega)]
      have w3 : IntKind.i64.wrap ((m : Int) + 3) = m + 3 := by rw [i64_in _ (by omega)]
      have hm0 : (m : Int) < 64 := by omega
      have hm1 : (m : Int) + 1 < 64 := by omega
      have hm2 : (m : Int) + 2 < 64 := by omega
      have hm3 : (m : Int) + 3 < 64 := by omega
      have hn6 : (n : Int) < 64 := by omega
      have t2 : ((m : Int) + 2).toNat = m + 2 := by omega
      have t3 : ((m : Int) + 3).toNat = m + 3 := by omega
      have ce : wr.cell? ⟨q + 1, n, none⟩ = some (.int .u32 0) := HS.out.rest (by omega)
      have fz : wr.frozen? ⟨q + 1, n, none⟩ = false := free_of HS.out.words _
      have hp1 : 0 ≤ (m : Int) + 1 := by omega
      have hp2 : 0 ≤ (m : Int) + 2 := by omega
      have hp3 : 0 ≤ (m : Int) + 3 := by omega
      obtain ⟨x0, x1, x2, x3, y0, y1, y2, o1, o2, o3, e0, e1, e2, e3, f0, f1, f2, g1, g2, g3, hw⟩ := word_steps (b.getD (4 * n) 0) (b.getD (4 * n + 1) 0) (b.getD (4 * n + 2) 0) (b.getD (4 * n + 3) 0)
      have HW : Hid (nxt b n (wl b n) = o3) := by unfold nxt wd; rw [if_pos hlt]; exact hw
      clear hw
      generalize b.getD (4 * n) 0 = c0 at *
      generalize b.getD (4 * n + 1) 0 = c1 at *
      generalize b.getD (4 * n + 2) 0 = c2 at *
      generalize b.getD (4 * n + 3) 0 = c3 at *
      rw [hm] at a0 a1 a2 a3
      have HM := Lib.hid hm
      clear hm
      go_wp2_with fail
      go_still_tail 31, (by kernel_rfl)
      go_wp2_with fail
      exact ⟨⟨n + 1, by omega, by go_num, by rw [← HW.out]; exact (HS.out.set (by omega)).draws 1⟩, by simp [intOf]; omega⟩
    · have hnn : n = 16 := by omega
      have H1 : Hid (SpAt w wr q b 16) := by rw [← hnn]; exact HS.out
      have hge : ¬ (n : Int) < 16 := by omega
      clear hnn hlt hn HS
      go_wp2_with fail
      clear hge
      go_loopw [4] (fun t wr => ∃ n : Nat, 16 ≤ n ∧ n ≤ 64 ∧ t = .int .i64 n ∧ SpAt w wr q b n) (fun t _ => 64 - (intOf t).toNat)
      case atStart => exact ⟨16, by omega, by omega, rfl, H1.out⟩
      case round =>
        obtain ⟨n, hn0, hn, rfl, hs⟩ := hrel
        have HS := Lib.hid hs
        clear hs
        by_cases hlt : n < 64
        · have hlt' : (n : Int) < 64 := by omega
          obtain ⟨m15, hm15⟩ : ∃ m, n - 15 = m := ⟨_, rfl⟩
          obtain ⟨m2, hm2⟩ : ∃ m, n - 2 = m := ⟨_, rfl⟩
          obtain ⟨m16, hm16⟩ : ∃ m, n - 16 = m := ⟨_, rfl⟩
          obtain ⟨m7, hm7⟩ : ∃ m, n - 7 = m := ⟨_, rfl⟩
          have c0 := HS.out.word m15 (by omega)
          have c1 := HS.out.word m2 (by omega)
          have c2 := HS.out.word m16 (by omega)
          have c3 := HS.out.word m7 (by omega)
          obtain ⟨r1, r2, p1, p2, p3, r3, r4, q1, q2, q3, z1, z2, z3, e1, e2, f1, f2, f3, e3, e4, g1, g2, g3, h1, h2, h3, hw⟩ := ext_steps ((wl b n).getD m15 0) ((wl b n).getD m2 0) ((wl b n).getD m16 0) ((wl b n).getD m7 0)
          have HW : Hid (nxt b n (wl b n) = z3) := by unfold nxt; rw [if_neg (by omega), hm15, hm2, hm16, hm7]; exact hw
          clear hw
          generalize (wl b n).getD m15 0 = x at *
          generalize (wl b n).getD m2 0 = y at *
          generalize (wl b n).getD m16 0 = u at *
          generalize (wl b n).getD m7 0 = v at *
          have ce : wr.cell? ⟨q + 1, n, none⟩ = some (.int .u32 0) := HS.out.rest (by omega)
          have fz : wr.frozen? ⟨q + 1, n, none⟩ = false := free_of HS.out.words _
          have R7 : Hid (∀ W, Calls Tryd.prog 28 #[.int .u32 (x.toNat : Int), .int .i64 (-7)] W fun e w' => e = .returned (.int .u32 (r1.toNat : Int)) ∧ w' = W) := fun W => by rw [← e1]; exact rot_any x 7 (by decide) (by decide) W
          have R18 : Hid (∀ W, Calls Tryd.prog 28 #[.int .u32 (x.toNat : Int), .int .i64 (-18)] W fun e w' => e = .returned (.int .u32 (r2.toNat : Int)) ∧ w' = W) := fun W => by rw [← e2]; exact rot_any x 18 (by decide) (by decide) W
          have R17 : Hid (∀ W, Calls Tryd.prog 28 #[.int .u32 (y.toNat : Int), .int .i64 (-17)] W fun e w' => e = .returned (.int .u32 (r3.toNat : Int)) ∧ w' = W) := fun W => by rw [← e3]; exact rot_any y 17 (by decide) (by decide) W
          have R19 : Hid (∀ W, Calls Tryd.prog 28 #[.int .u32 (y.toNat : Int), .int .i64 (-19)] W fun e w' => e = .returned (.int .u32 (r4.toNat : Int)) ∧ w' = W) := fun W => by rw [← e4]; exact rot_any y 19 (by decide) (by decide) W
          clear e1 e2 e3 e4
          have k15 : IntKind.i64.wrap ((n : Int) - 15) = (m15 : Int) := by rw [i64_in _ (by omega)]; omega
          have j15 : wrap64 ((n : Int) - 15) = (m15 : Int) := by unfold wrap64; omega
          have b15 : (m15 : Int) < 64 := by omega
          have k2 : IntKind.i64.wrap ((n : Int) - 2) = (m2 : Int) := by rw [i64_in _ (by omega)]; omega
          have j2 : wrap64 ((n : Int) - 2) = (m2 : Int) := by unfold wrap64; omega
          have b2 : (m2 : Int) < 64 := by omega
          have k16 : IntKind.i64.wrap ((n : Int) - 16) = (m16 : Int) := by rw [i64_in _ (by omega)]; omega
          have j16 : wrap64 ((n : Int) - 16) = (m16 : Int) := by unfold wrap64; omega
          have b16 : (m16 : Int) < 64 := by omega
          have k7 : IntKind.i64.wrap ((n : Int) - 7) = (m7 : Int) := by rw [i64_in _ (by omega)]; omega
          have j7 : wrap64 ((n : Int) - 7) = (m7 : Int) := by unfold wrap64; omega
          have b7 : (m7 : Int) < 64 := by omega
          have HM := Lib.hid (And.intro hm15 (And.intro hm2 (And.intro hm16 hm7)))
          clear hm15 hm2 hm16 hm7
          go_wp2_with fail
          go_quiet (fail)
          go_wp2_with (first | (go_at_call 28; with_reducible refine (R7.out _).mono ?_; rintro e W1 ⟨rfl, rfl⟩) | (go_at_call 28; with_reducible refine (R18.out _).mono ?_; rintro e W1 ⟨rfl, rfl⟩) | (go_at_call 28; with_reducible refine (R17.out _).mono ?_; rintro e W1 ⟨rfl, rfl⟩) | (go_at_call 28; with_reducible refine (R19.out _).mono ?_; rintro e W1 ⟨rfl, rfl⟩))
          obtain ⟨X, hX⟩ : ∃ X, wr.drewN nq = X := ⟨_, rfl⟩
          have HX : Hid (SpAt w X q b n) := by rw [← hX]; exact HS.out.draws nq
          have d2 : X.cell? ⟨q + 1, m16, none⟩ = some (.int .u32 (u.toNat : Int)) := by rw [← hX]; exact c2
          have d3 : X.cell? ⟨q + 1, m7, none⟩ = some (.int .u32 (v.toNat : Int)) := by rw [← hX]; exact c3
          have de : X.cell? ⟨q + 1, n, none⟩ = some (.int .u32 0) := by rw [← hX]; exact ce
          have df : X.frozen? ⟨q + 1, n, none⟩ = false := by rw [← hX]; exact fz
          rw [hX]
          clear hX c0 c1 c2 c3 ce fz R7 R17 R18 R19
          go_still_tail 15, (by kernel_rfl)
          go_wp2_with fail
          go_roundw
          case rel => exact ⟨n + 1, by omega, by omega, by go_num, by rw [← HW.out]; exact (HX.out.set (by omega)).draws 1⟩
          case measure => simp [intOf]; omega
        · have hnn : n = 64 := by omega
          have he : sp b n = cs := by rw [hnn]; exact hcs.out
          have hl : (sp b n).length = 64 := sp_length b n hn
          have ho := sp_one b n
          have hw := HS.out.words
          have hge : ¬ (n : Int) < 64 := by omega
          have HK := Lib.hid HS.out.keep
          have HSZ := Lib.hid HS.out.size
          rw [he] at hl ho hw
          clear HS hlt hnn hn hn0 he
          have hi : (Tryd.prog.info? 61).map (·.size) = some cs.toArray.size := by rw [List.size_toArray, hl]; kernel_rfl
          go_wp2_with (first | refine wpList_load_row rfl 61 (.tmp 2) rfl (q + 1) rfl 61 cs.toArray (0, 0) _ hw Tryd.underlying61 rfl hi ?_ | refine wpList_store_row rfl 61 (.tmp 2) (.tmp 85) rfl (q + 1) cs.toArray rfl rfl 61 cs.toArray hw hi rfl ho ?_)
          rw [setRow_self wr _ _ _ _ hw]
          exact bodyPost_ret (results_cell_row Tryd.results27 _ _ (q + 1) 61 _ _ _ rfl hw Tryd.underlying61 rfl hi) rfl ⟨rfl, HK.out⟩
theorem spread_any (b : List UInt8) (hb : b.length = 64) (w : World) : Calls Tryd.prog 27 #[.agg (bv b).toArray] w fun e w' => e = .returned (.agg ((wl b 64).map W32.v).toArray) ∧ Keep (fun _ => False) w w' :=
  spread_to b hb w _ (sp_full b)
end Go.Proofs.YtoeniimgbinflaaDoor
