/- The sums behind a block. -/
import Derived.Test.YtoeniimgbinflaaDoorS2
namespace Go.Proofs.YtoeniimgbinflaaDoor
open Go.RowKit
/-- The table of the rounds lies in the first block. -/
def Tab (w : World) : Prop := ∀ i, i < 64 → w.cell? ⟨0, i, none⟩ = some (kk i).v
theorem Tab.lt {w : World} (h : Tab w) : 0 < w.heap.size := World.block_lt_of_cell? w _ (h 0 (by decide))
theorem Tab.keep {S : Nat → Prop} {w w' : World} (h : Tab w) (k : Keep S w w') (h0 : ¬ S 0) : Tab w' := fun i hi => by
  rw [World.cell?_of_block (w := w) (k.block 0 h.lt h0)]; exact h i hi
theorem Tab.keep0 {w w' : World} (h : Tab w) (k : Keep (fun _ => False) w w') : Tab w' := h.keep k (fun h => h)
/-- The steps of a round's first sum, each by its own name. -/
theorem rx_steps (e f g h k w : W32) : ∃ r1 r2 r3 a1 a2 a3 a4 a5 a6 a7 a8 a9 : W32, rr e 6 = r1 ∧ rr e 11 = r2 ∧ rr e 25 = r3 ∧ bits .xor .u32 (r1.toNat : Int) (r2.toNat : Int) = a1.toNat ∧ bits .xor .u32 (a1.toNat : Int) (r3.toNat : Int) = a2.toNat ∧
    IntKind.u32.wrap ((h.toNat : Int) + a2.toNat) = a3.toNat ∧ bits .xor .u32 (f.toNat : Int) (g.toNat : Int) = a4.toNat ∧ bits .and .u32 (e.toNat : Int) (a4.toNat : Int) = a5.toNat ∧ bits .xor .u32 (g.toNat : Int) (a5.toNat : Int) = a6.toNat ∧
    IntKind.u32.wrap ((a3.toNat : Int) + a6.toNat) = a7.toNat ∧ IntKind.u32.wrap ((a7.toNat : Int) + k.toNat) = a8.toNat ∧ IntKind.u32.wrap ((a8.toNat : Int) + w.toNat) = a9.toNat ∧ h + sx e + ch e f g + k + w = a9 :=
  ⟨_, _, _, _, _, _, _, _, _, _, _, _, rfl, rfl, rfl, v_xor _ _, v_xor _ _, v_add _ _, v_xor _ _, v_and _ _, v_xor _ _, v_add _ _, v_add _ _, v_add _ _, rfl⟩
/-- The steps of a round's second sum, and of what becomes of two words. -/
theorem ry_steps (a b c d x : W32) : ∃ r1 r2 r3 c1 c2 c3 c4 c5 c6 c7 c8 c9 : W32, rr a 2 = r1 ∧ rr a 13 = r2 ∧ rr a 22 = r3 ∧ bits .xor .u32 (r1.toNat : Int) (r2.toNat : Int) = c1.toNat ∧ bits .xor .u32 (c1.toNat : Int) (r3.toNat : Int) = c2.toNat ∧
    bits .and .u32 (a.toNat : Int) (b.toNat : Int) = c3.toNat ∧ bits .or .u32 (a.toNat : Int) (b.toNat : Int) = c4.toNat ∧ bits .and .u32 (c.toNat : Int) (c4.toNat : Int) = c5.toNat ∧ bits .or .u32 (c3.toNat : Int) (c5.toNat : Int) = c6.toNat ∧
    ((c2.toNat : Int) + c6.toNat) % 4294967296 = c7.toNat ∧ ((x.toNat : Int) + c7.toNat) % 4294967296 = c8.toNat ∧ ((d.toNat : Int) + x.toNat) % 4294967296 = c9.toNat ∧ x + (sy a + mj a b c) = c8 ∧ d + x = c9 :=
  ⟨_, _, _, _, _, _, _, _, _, _, _, _, rfl, rfl, rfl, v_xor _ _, v_xor _ _, v_and _ _, v_or _ _, v_and _ _, v_or _ _, m_add _ _, m_add _ _, m_add _ _, rfl, rfl⟩
def H8.get (s : H8) (n : Nat) : W32 := [s.a, s.b, s.c, s.d, s.e, s.f, s.g, s.h].getD n 0
/-- The sums, those ahead of n with t's added. -/
def H8.part (s t : H8) (n : Nat) : List Value := [(if 0 < n then s.a + t.a else s.a).v, (if 1 < n then s.b + t.b else s.b).v, (if 2 < n then s.c + t.c else s.c).v, (if 3 < n then s.d + t.d else s.d).v, (if 4 < n then s.e + t.e else s.e).v, (if 5 < n then s.f + t.f else s.f).v, (if 6 < n then s.g + t.g else s.g).v, (if 7 < n then s.h + t.h else s.h).v]
theorem part0 (s t : H8) : s.part t 0 = s.cs := rfl
theorem part8 (s t : H8) : s.part t 8 = (s.add t).cs := rfl
theorem part_at (s t : H8) (n : Nat) (h : n < 8) : (s.part t n)[n]? = some (s.get n).v := by
  match n, h with
  | 0, _ => rfl
  | 1, _ => rfl
  | 2, _ => rfl
  | 3, _ => rfl
  | 4, _ => rfl
  | 5, _ => rfl
  | 6, _ => rfl
  | 7, _ => rfl
theorem part_set (s t : H8) (n : Nat) (h : n < 8) : (s.part t n).set n (s.get n + t.get n).v = s.part t (n + 1) := by
  match n, h with
  | 0, _ => rfl
  | 1, _ => rfl
  | 2, _ => rfl
  | 3, _ => rfl
  | 4, _ => rfl
  | 5, _ => rfl
  | 6, _ => rfl
  | 7, _ => rfl
theorem part_length (s t : H8) (n : Nat) : (s.part t n).length = 8 := rfl
theorem part_one (s t : H8) (n : Nat) : (s.part t n).toArray.all (·.oneCell') = true := by
  refine all_oneCell_toArray fun v hv => ?_
  unfold H8.part at hv
  simp only [List.mem_cons, List.not_mem_nil, or_false] at hv
  rcases hv with rfl | rfl | rfl | rfl | rfl | rfl | rfl | rfl <;> rfl
theorem cs_at (s : H8) (n : Nat) (h : n < 8) : s.cs[n]? = some (s.get n).v := by
  match n, h with
  | 0, _ => rfl
  | 1, _ => rfl
  | 2, _ => rfl
  | 3, _ => rfl
  | 4, _ => rfl
  | 5, _ => rfl
  | 6, _ => rfl
  | 7, _ => rfl
theorem run_index_int {P : Program} (t e : TypeId) (n i : Nat) (k : IntKind) (cs : Array Value) (v : Value) (hu : P.underlying t = some (.array n e)) (he : P.underlying e = some (.int k)) (hs : (P.info? e).map (·.size) = some 1) (hi : i < n) (hc : cs[i]? = some v) (w : World) :
    (Instr.index t (.agg cs) (.int .i64 (i : Int))).run P w = .ok v w := by
  cases hq : P.info? e with
  | none => simp [hq] at hs
  | some ie =>
    have h1 : ie.size = 1 := by simpa [hq] using hs
    unfold Instr.index
    simp [asIntOf, Sem.run_bind, run_underlying hu, sizeOf, typeInfo, hq, h1, part, isAgg, run_underlying he, hc, hi]
/-- What the call lays: the sums, the bytes, room for its result. -/
structure MxAt (w wr : World) (q : Nat) (s t : H8) (b : List UInt8) (n : Nat) : Prop where
  keep : Keep (fun _ => False) w wr
  size : w.heap.size = q
  sums : wr.heap[q]? = some (.cells (s.part t n).toArray 38 (0, 0))
  bytes : wr.heap[q + 1]? = some (.cells (bv b).toArray 39 (0, 0))
  room : wr.heap[q + 2]? = some (.cells (List.replicate 8 (Value.int .u32 0)).toArray 38 (0, 0))
theorem MxAt.keep0 {w wr wz : World} {q : Nat} {s t : H8} {b : List UInt8} {n : Nat} (h : MxAt w wr q s t b n) (k : Keep (fun _ => False) wr wz) : MxAt w wz q s t b n :=
  ⟨h.keep.trans k, h.size, k.heap h.sums (fun h => h), k.heap h.bytes (fun h => h), k.heap h.room (fun h => h)⟩
theorem MxAt.set {w wr : World} {q : Nat} {s t : H8} {b : List UInt8} {n : Nat} (h : MxAt w wr q s t b n) (hn : n < 8) : MxAt w (wr.setCell ⟨q, n, none⟩ (s.get n + t.get n).v) q s t b (n + 1) := by
  have hq := h.size
  have k : Keep (fun i => i = q) wr (wr.setCell ⟨q, n, none⟩ (s.get n + t.get n).v) := Keep.setCell wr _ rfl
  refine ⟨h.keep.setNew (by show _ ≤ q; omega) _, h.size, ?_, k.heap h.bytes (by omega), k.heap h.room (by omega)⟩
  rw [heap_setCell_at h.sums, List.setIfInBounds_toArray, part_set s t n hn]
theorem Keep.rowNew {w0 w : World} (h : Keep (fun _ => False) w0 w) {g : Nat} (hg : w0.heap.size ≤ g) (cs : Array Value) : Keep (fun _ => False) w0 (w.setRow g cs) :=
  h.step (S' := fun i => i = g) ⟨rfl, rfl, rfl, by simp, fun k _ hs => setRow_other w g k cs hs⟩ (fun i hi => .inr (by omega))
set_option maxHeartbeats 4000000 in
set_option maxRecDepth 100000 in
theorem mix_to (s : H8) (b : List UInt8) (hb : b.length = 64) (ws : List W32) (hws : Hid (wl b 64 = ws)) (w : World) (htab : Tab w) (cs : List Value) (hcs : Hid ((s.add (rounds s ws 64)).cs = cs)) : Calls Tryd.prog 21 #[.agg s.cs.toArray, .agg (bv b).toArray] w fun e w' => e = .returned (.agg cs.toArray) ∧ Keep (fun _ => False) w w' := by
  obtain ⟨q, hq⟩ : ∃ q, w.heap.size = q := ⟨_, rfl⟩
  have HT := Lib.hid htab
  have HSP : Hid (∀ W, Calls Tryd.prog 27 #[.agg (bv b).toArray] W fun e w' => e = .returned (.agg (ws.map W32.v).toArray) ∧ Keep (fun _ => False) W w') := fun W => by rw [← hws.out]; exact spread_any b hb W
  have HWL : Hid (ws.length = 64) := by rw [← hws.out]; exact wl_length b 64
  clear htab hws
  go_enter Tryd.func21, Tryd.ntmps21
  go_wp2_with fail
  obtain ⟨t, ht⟩ : ∃ t, rounds s ws 64 = t := ⟨_, rfl⟩
  have HTT := Lib.hid ht
  have HCS : Hid ((s.add t).cs = cs) := by rw [← ht]; exact hcs.out
  obtain ⟨p, hp⟩ : ∃ p, q + 1 + 1 = p := ⟨_, rfl⟩
  have HP := Lib.hid hp
  obtain ⟨X, hX⟩ : ∃ X, ((w.alloc (Obj.cells s.cs.toArray 38)).alloc (Obj.cells (bv b).toArray 39)).alloc (Obj.cells (List.replicate 8 (Value.int .u32 0)).toArray 38) = X := ⟨_, rfl⟩
  have H0 : Hid (MxAt w X q s t b 0) := by
    refine ⟨?_, hq, ?_, ?_, ?_⟩
    · rw [← hX]; exact ((Keep.alloc _ _ _).allocR _).allocR _
    · rw [← hX, ← hq]; exact Keep.heap ((Keep.alloc (fun _ => False) _ _).allocR _) (heap_alloc_new w _) (fun h => h)
    · rw [← hX, ← hq]; exact Keep.heap (Keep.alloc (fun _ => False) _ _) (heap_alloc2_new w _ _) (fun h => h)
    · rw [← hX]
      have : q + 2 = ((w.alloc (Obj.cells s.cs.toArray 38)).alloc (Obj.cells (bv b).toArray 39)).heap.size := by simp [hq]
      rw [this]; exact heap_alloc_new _ _
  rw [show (Value.int IntKind.u32 0 :: Value.int IntKind.u32 0 :: Value.int IntKind.u32 0 :: Value.int IntKind.u32 0 :: Value.int IntKind.u32 0 :: Value.int IntKind.u32 0 :: Value.int IntKind.u32 0 :: Value.int IntKind.u32 0 :: [] : List Value) = List.replicate 8 (Value.int .u32 0) from rfl, hX, hp]
  clear hX hq ht hp
  have s0 : X.cell? ⟨q, 0, none⟩ = some (.int .u32 (s.a.toNat : Int)) := cell_of H0.out.sums 0
  have s1 : X.cell? ⟨q, 1, none⟩ = some (.int .u32 (s.b.toNat : Int)) := cell_of H0.out.sums 1
  have s2 : X.cell? ⟨q, 2, none⟩ = some (.int .u32 (s.c.toNat : Int)) := cell_of H0.out.sums 2
  have s3 : X.cell? ⟨q, 3, none⟩ = some (.int .u32 (s.d.toNat : Int)) := cell_of H0.out.sums 3
  have s4 : X.cell? ⟨q, 4, none⟩ = some (.int .u32 (s.e.toNat : Int)) := cell_of H0.out.sums 4
  have s5 : X.cell? ⟨q, 5, none⟩ = some (.int .u32 (s.f.toNat : Int)) := cell_of H0.out.sums 5
  have s6 : X.cell? ⟨q, 6, none⟩ = some (.int .u32 (s.g.toNat : Int)) := cell_of H0.out.sums 6
  have s7 : X.cell? ⟨q, 7, none⟩ = some (.int .u32 (s.h.toNat : Int)) := cell_of H0.out.sums 7
  go_quiet (fail)
  clear s0 s1 s2 s3 s4 s5 s6 s7
  obtain ⟨X1, hX1⟩ : ∃ X1, X.drewN nq = X1 := ⟨_, rfl⟩
  have H1 : Hid (MxAt w X1 q s t b 0) := by rw [← hX1]; exact H0.out.keep0 (Keep.drewN _ _ _)
  rw [hX1]
  clear hX1
  have hb1 := H1.out.bytes
  have hi39 : (Tryd.prog.info? 39).map (·.size) = some (bv b).toArray.size := by rw [List.size_toArray, bv_length, hb]; kernel_rfl
  go_wp2_with (first | refine wpList_load_row rfl 39 (.tmp 3) rfl (q + 1) rfl 39 (bv b).toArray (0, 0) _ hb1 Tryd.underlying39 rfl hi39 ?_ | (go_at_call 27; with_reducible refine (HSP.out _).mono ?_; rintro e W1 ⟨rfl, hk⟩; have KW := Lib.hid hk; clear hk))
  have H2 : Hid (MxAt w W1 q s t b 0) := H1.out.keep0 KW.out
  clear hb1 hi39 H1 H0 KW HSP
  go_loopw [37, 5, 6, 7, 8, 9, 10, 11, 12] (fun t37 t5 t6 t7 t8 t9 t10 t11 t12 wr => ∃ (n : Nat) (r : H8), n ≤ 64 ∧ t37 = .int .i64 n ∧ r = rounds s ws n ∧ t5 = .int .u32 (r.a.toNat : Int) ∧ t6 = .int .u32 (r.b.toNat : Int) ∧ t7 = .int .u32 (r.c.toNat : Int) ∧ t8 = .int .u32 (r.d.toNat : Int) ∧
    t9 = .int .u32 (r.e.toNat : Int) ∧ t10 = .int .u32 (r.f.toNat : Int) ∧ t11 = .int .u32 (r.g.toNat : Int) ∧ t12 = .int .u32 (r.h.toNat : Int) ∧ MxAt w wr q s t b 0) (fun t37 _ _ _ _ _ _ _ _ _ => 64 - (intOf t37).toNat)
  case atStart => exact ⟨0, s, by omega, rfl, rfl, rfl, rfl, rfl, rfl, rfl, rfl, rfl, rfl, H2.out⟩
  case round =>
    obtain ⟨n, r, hn, rfl, hr, rfl, rfl, rfl, rfl, rfl, rfl, rfl, rfl, hm⟩ := hrel
    have HM := Lib.hid hm
    have HR := Lib.hid hr
    clear hm hr
    by_cases hlt : n < 64
    · have hlt' : (n : Int) < 64 := by omega
      have htab := (HT.out.keep0 HM.out.keep) n hlt
      have hwn : (ws.map W32.v).toArray[n]? = some (.int .u32 ((ws.getD n 0).toNat : Int)) := by
        rw [List.getElem?_toArray, List.getElem?_map, List.getD_eq_getElem?_getD, List.getElem?_eq_getElem (by rw [HWL.out]; exact hlt)]; rfl
      have hrn : rnd r (kk n) (ws.getD n 0) = rounds s ws (n + 1) := by rw [HR.out]; rfl
      obtain ⟨ra, rb, rc, rd, re, rf, rg, rh⟩ := r
      dsimp only at hrn ⊢
      obtain ⟨r1, r2, r3, a1, a2, a3, a4, a5, a6, a7, a8, a9, e1, e2, e3, f1, f2, f3, f4, f5, f6, f7, f8, f9, hx⟩ := rx_steps re rf rg rh (kk n) (ws.getD n 0)
      obtain ⟨p1, p2, p3, c1, c2, c3, c4, c5, c6, c7, c8, c9, d1, d2, d3, g1, g2, g3, g4, g5, g6, g7, g8, g9, hy, hz⟩ := ry_steps ra rb rc rd a9
      have HRN : Hid ((⟨c8, ra, rb, rc, c9, re, rf, rg⟩ : H8) = rounds s ws (n + 1)) := by rw [← hrn, ← hy, ← hz, ← hx]; rfl
      clear hrn hx hy hz HR
      have HI : ∀ W, (Instr.index 61 (.agg (ws.map W32.v).toArray) (.int .i64 (n : Int))).run Tryd.prog W = .ok (.int .u32 ((ws.getD n 0).toNat : Int)) W := fun W => run_index_int 61 37 64 n .u32 _ _ Tryd.underlying61 Tryd.underlying37 (by kernel_rfl) hlt hwn W
      clear hwn
      generalize ws.getD n 0 = wn at *
      unfold W32.v at htab
      generalize kk n = kn at *
      have Q6 : Hid (∀ W, Calls Tryd.prog 28 #[.int .u32 (re.toNat : Int), .int .i64 (-6)] W fun e w' => e = .returned (.int .u32 (r1.toNat : Int)) ∧ w' = W) := fun W => by rw [← e1]; exact rot_any re 6 (by decide) (by decide) W
      have J6 : Hid (∀ W, Calls Tryd.prog 28 #[.int .u32 (re.toNat : Int), .int .i64 (-6)] W fun e w' => e = .returned (.int .u32 (r1.toNat : Int)) ∧ Keep (fun _ => False) W w') := fun W => (Q6.out W).mono fun e w' ⟨a, b⟩ => ⟨a, by subst b; exact Keep.refl _ _⟩
      have Q11 : Hid (∀ W, Calls Tryd.prog 28 #[.int .u32 (re.toNat : Int), .int .i64 (-11)] W fun e w' => e = .returned (.int .u32 (r2.toNat : Int)) ∧ w' = W) := fun W => by rw [← e2]; exact rot_any re 11 (by decide) (by decide) W
      have J11 : Hid (∀ W, Calls Tryd.prog 28 #[.int .u32 (re.toNat : Int), .int .i64 (-11)] W fun e w' => e = .returned (.int .u32 (r2.toNat : Int)) ∧ Keep (fun _ => False) W w') := fun W => (Q11.out W).mono fun e w' ⟨a, b⟩ => ⟨a, by subst b; exact Keep.refl _ _⟩
      have Q25 : Hid (∀ W, Calls Tryd.prog 28 #[.int .u32 (re.toNat : Int), .int .i64 (-25)] W fun e w' => e = .returned (.int .u32 (r3.toNat : Int)) ∧ w' = W) := fun W => by rw [← e3]; exact rot_any re 25 (by decide) (by decide) W
      have J25 : Hid (∀ W, Calls Tryd.prog 28 #[.int .u32 (re.toNat : Int), .int .i64 (-25)] W fun e w' => e = .returned (.int .u32 (r3.toNat : Int)) ∧ Keep (fun _ => False) W w') := fun W => (Q25.out W).mono fun e w' ⟨a, b⟩ => ⟨a, by subst b; exact Keep.refl _ _⟩
      have Q2 : Hid (∀ W, Calls Tryd.prog 28 #[.int .u32 (ra.toNat : Int), .int .i64 (-2)] W fun e w' => e = .returned (.int .u32 (p1.toNat : Int)) ∧ w' = W) := fun W => by rw [← d1]; exact rot_any ra 2 (by decide) (by decide) W
      have J2 : Hid (∀ W, Calls Tryd.prog 28 #[.int .u32 (ra.toNat : Int), .int .i64 (-2)] W fun e w' => e = .returned (.int .u32 (p1.toNat : Int)) ∧ Keep (fun _ => False) W w') := fun W => (Q2.out W).mono fun e w' ⟨a, b⟩ => ⟨a, by subst b; exact Keep.refl _ _⟩
      have Q13 : Hid (∀ W, Calls Tryd.prog 28 #[.int .u32 (ra.toNat : Int), .int .i64 (-13)] W fun e w' => e = .returned (.int .u32 (p2.toNat : Int)) ∧ w' = W) := fun W => by rw [← d2]; exact rot_any ra 13 (by decide) (by decide) W
      have J13 : Hid (∀ W, Calls Tryd.prog 28 #[.int .u32 (ra.toNat : Int), .int .i64 (-13)] W fun e w' => e = .returned (.int .u32 (p2.toNat : Int)) ∧ Keep (fun _ => False) W w') := fun W => (Q13.out W).mono fun e w' ⟨a, b⟩ => ⟨a, by subst b; exact Keep.refl _ _⟩
      have Q22 : Hid (∀ W, Calls Tryd.prog 28 #[.int .u32 (ra.toNat : Int), .int .i64 (-22)] W fun e w' => e = .returned (.int .u32 (p3.toNat : Int)) ∧ w' = W) := fun W => by rw [← d3]; exact rot_any ra 22 (by decide) (by decide) W
      have J22 : Hid (∀ W, Calls Tryd.prog 28 #[.int .u32 (ra.toNat : Int), .int .i64 (-22)] W fun e w' => e = .returned (.int .u32 (p3.toNat : Int)) ∧ Keep (fun _ => False) W w') := fun W => (Q22.out W).mono fun e w' ⟨a, b⟩ => ⟨a, by subst b; exact Keep.refl _ _⟩
      clear e1 e2 e3 d1 d2 d3
      go_wp2_with fail
      have hRl := (Later.rules wr).1
      have h0lt := (HT.out.keep0 HM.out.keep).lt
      refine wp_region_later (by kernel_rfl) (by kernel_rfl) ?_
      repeat (refine wpQuiet_step (fun K hK => ?_); go_simp; first | (refine hK _ ?_; clear hK K) | (apply Exists.intro; refine ⟨fun g => ?_, hK _ ?_⟩; (first | (go_at_call 28; with_reducible exact Later.call (J6.out _)) | (go_at_call 28; with_reducible exact Later.call (J11.out _)) | (go_at_call 28; with_reducible exact Later.call (J25.out _))); clear hK K))
      refine wpQuiet_nil ?_
      intro X hX0
      obtain ⟨g0, hX⟩ := hX0
      have HM1 : Hid (MxAt w X q s t b 0) := hX ▸ HM.out.keep0 g0.keep
      clear hX g0 hRl h0lt htab J6 J11 J25 J2 J13 J22 HI f1 f2 f3 f4 f5 f6 f7 f8 f9
      go_wp2_with (first | (go_at_call 28; with_reducible refine (Q2.out _).mono ?_; rintro e W1 ⟨rfl, rfl⟩) | (go_at_call 28; with_reducible refine (Q13.out _).mono ?_; rintro e W1 ⟨rfl, rfl⟩) | (go_at_call 28; with_reducible refine (Q22.out _).mono ?_; rintro e W1 ⟨rfl, rfl⟩))
      rw [g8, g9]
      exact ⟨⟨n + 1, ⟨c8, ra, rb, rc, c9, re, rf, rg⟩, by omega, by go_num, HRN.out, rfl, rfl, rfl, rfl, rfl, rfl, rfl, rfl, HM1.out⟩, by simp [intOf]; omega⟩
    · have hrt : r = t := by rw [HR.out, ← HTT.out, show n = 64 by omega]
      have hge : ¬ (n : Int) < 64 := by omega
      subst hrt
      clear HR HTT hlt hn
      go_wp2_with fail
      clear hge
      have H3 := Lib.hid HM.out
      clear HM
      go_loopw [105] (fun t105 wr => ∃ n : Nat, n ≤ 8 ∧ t105 = .int .i64 n ∧ MxAt w wr q s r b n) (fun t105 _ => 8 - (intOf t105).toNat)
      case atStart => exact ⟨0, by omega, rfl, H3.out⟩
      case round =>
        obtain ⟨n, hn, rfl, hm⟩ := hrel
        have HM := Lib.hid hm
        clear hm
        by_cases hlt : n < 8
        · have hlt' : (n : Int) < 8 := by omega
          have c0 : wr.cell? ⟨q, n, none⟩ = some (.int .u32 ((s.get n).toNat : Int)) := (cell_of HM.out.sums n).trans (by rw [List.getElem?_toArray, part_at _ _ _ hlt])
          have fz : wr.frozen? ⟨q, n, none⟩ = false := free_of HM.out.sums n
          have HI : ∀ W, (Instr.index 38 (.agg #[.int .u32 (r.a.toNat : Int), .int .u32 (r.b.toNat : Int), .int .u32 (r.c.toNat : Int), .int .u32 (r.d.toNat : Int), .int .u32 (r.e.toNat : Int), .int .u32 (r.f.toNat : Int), .int .u32 (r.g.toNat : Int), .int .u32 (r.h.toNat : Int)]) (.int .i64 (n : Int))).run Tryd.prog W = .ok (.int .u32 ((r.get n).toNat : Int)) W := fun W => run_index_int 38 37 8 n .u32 r.cs.toArray _ Tryd.underlying38 Tryd.underlying37 (by kernel_rfl) hlt (by rw [List.getElem?_toArray, cs_at _ _ hlt]) W
          have hz := m_add (s.get n) (r.get n)
          have HST := Lib.hid (HM.out.set hlt)
          generalize s.get n + r.get n = z at *
          generalize s.get n = y0 at *
          generalize r.get n = y1 at *
          go_wp2_with fail
          exact ⟨⟨n + 1, by omega, by go_num, HST.out⟩, by simp [intOf]; omega⟩
        · have hpe : s.part r n = cs := by rw [← HCS.out, show n = 8 by omega]; exact part8 s r
          have hge : ¬ (n : Int) < 8 := by omega
          have hl : cs.length = 8 := by rw [← hpe]; exact part_length s r n
          have ho : cs.toArray.all (·.oneCell') = true := by rw [← hpe]; exact part_one s r n
          have hw := HM.out.sums
          have hr := HM.out.room
          rw [hpe] at hw
          rw [show q + 2 = p from HP.out] at hr
          have hi : (Tryd.prog.info? 38).map (·.size) = some cs.toArray.size := by rw [List.size_toArray, hl]; kernel_rfl
          have hold : (List.replicate 8 (Value.int .u32 0)).toArray.size = cs.toArray.size := by rw [List.size_toArray, List.size_toArray, hl]; rfl
          have HF : Hid (Keep (fun _ => False) w (wr.setRow p cs.toArray)) := HM.out.keep.rowNew (by rw [HM.out.size, ← HP.out]; omega) _
          have hfin := setRow_heap wr p _ cs.toArray 38 (0, 0) hr
          clear HM hpe hlt hn
          go_wp2_with (first | refine wpList_load_row rfl 38 (.tmp 2) rfl q rfl 38 cs.toArray (0, 0) _ hw Tryd.underlying38 rfl hi ?_ | refine wpList_store_row rfl 38 (.tmp 4) (.tmp 116) rfl p cs.toArray rfl rfl 38 _ hr hi hold ho ?_)
          exact bodyPost_ret (results_cell_row Tryd.results21 _ _ p 38 _ _ _ rfl hfin Tryd.underlying38 rfl hi) rfl ⟨rfl, HF.out⟩
theorem mix_any (s : H8) (b : List UInt8) (hb : b.length = 64) (w : World) (htab : Tab w) : Calls Tryd.prog 21 #[.agg s.cs.toArray, .agg (bv b).toArray] w fun e w' => e = .returned (.agg (mixed s b).cs.toArray) ∧ Keep (fun _ => False) w w' :=
  mix_to s b hb _ (Lib.hid rfl) w htab _ (Lib.hid rfl)
end Go.Proofs.YtoeniimgbinflaaDoor
