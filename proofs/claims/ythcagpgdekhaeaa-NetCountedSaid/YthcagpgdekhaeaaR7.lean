/- The reference's Turn, walked. -/
import Derived.Test.YthcagpgdekhaeaaR6
import Derived.Test.YthcagpgdekhaeaaN15
namespace Go.Proofs.Ythcagpgdekhaeaa
open Go.RowKit
theorem str_bytes (s : ByteArray) (W : World) (q : Nat) (hq : W.heap.size = q) :
    ∃ X cp, (convert 9 28 (.string s)).run Try.prog W = .ok (.slice (some ⟨q, 0, none⟩) s.size cp) X ∧ s.size ≤ cp ∧ Keep (fun _ => False) W X ∧ X.heap[q]? = some (.cells (bytesRow s cp) 5 ((bytesRow s cp).size, (bytesRow s cp).size + 1)) ∧ X.heap.size = q + 1 := by
  have hcv := run_bytes_of_string (P := Try.prog) W 9 28 5 s Try.underlying9 Try.underlying28 Try.underlying5
  subst hq
  refine ⟨_, _, hcv, grownCap_ge _ _ _ _, (Keep.alloc _ _ _).drewR, heap_alloc_new _ _, ?_⟩
  show (W.heap.push _).size = _
  rw [Array.size_push]
set_option maxHeartbeats 2000000 in
theorem ref_turn_bad (rb base : Nat) (most : Int) (v : Value) (ps : List Pk) (c0 c1 c2 c3 : Int) (i k x : Int) (w : World) (h : RefAt w rb base most v ps c0 c1 c2 c3) (hi : i < 0 ∨ (ps.length : Int) ≤ i) :
    Calls Try.prog 34 #[.pointer (some ⟨rb, 0, none⟩), .int .i64 i, .int .i64 k, .int .u8 x] w fun e w' => e = .returned (.int .i64 211) ∧ Keep (fun _ => False) w w' := by
  have HL : Hid (∀ W, Keep (fun _ => False) w W → Calls Try.prog 35 #[.pointer (some ⟨rb, 0, none⟩), .int .i64 i] W fun e w' => e = .returned (.tuple #[.agg #[.int .i64 0, .string ⟨#[]⟩], .int .i64 211]) ∧ Keep (fun _ => False) W w') := fun W k => ref_look_bad rb base most v ps c0 c1 c2 c3 i W (h.keep0 k) hi
  clear h hi
  go_enter Try.func34, Try.ntmps34
  go_wp2_with (go_at_call 35; refine (HL.out _ (Keep.refl _ _)).mono ?_; rintro e W1 ⟨rfl, hk⟩; have K1 := Lib.hid hk; clear hk; obtain ⟨q, hq⟩ : ∃ q, W1.heap.size = q := ⟨_, rfl⟩)
  exact bodyPost_ret (v := .int .i64 211) (by simp [results, Try.results34, go_sem]) rfl ⟨rfl, K1.out.allocR _⟩
set_option maxHeartbeats 2000000 in
theorem ref_turn_arg (rb base : Nat) (most : Int) (v : Value) (ps : List Pk) (c0 c1 c2 c3 : Int) (i : Nat) (f : Int) (s : ByteArray) (k x : Int) (w : World) (h : RefAt w rb base most v ps c0 c1 c2 c3) (hi : ps[i]? = some (f, s)) (hk : k < 0 ∨ (s.size : Int) ≤ k) :
    Calls Try.prog 34 #[.pointer (some ⟨rb, 0, none⟩), .int .i64 i, .int .i64 k, .int .u8 x] w fun e w' => e = .returned (.int .i64 2) ∧ Keep (fun _ => False) w w' := by
  have HL : Hid (∀ W, Keep (fun _ => False) w W → Calls Try.prog 35 #[.pointer (some ⟨rb, 0, none⟩), .int .i64 i] W fun e w' => e = .returned (.tuple #[.agg #[.int .i64 f, .string s], .int .i64 0]) ∧ Keep (fun _ => False) W w') := fun W k => ref_look_ok rb base most v ps c0 c1 c2 c3 i f s W (h.keep0 k) hi
  clear h hi
  by_cases h0 : k < 0
  · go_enter Try.func34, Try.ntmps34
    go_wp2_with (go_at_call 35; refine (HL.out _ (Keep.refl _ _)).mono ?_; rintro e W1 ⟨rfl, hk⟩; have K1 := Lib.hid hk; clear hk; obtain ⟨q, hq⟩ : ∃ q, W1.heap.size = q := ⟨_, rfl⟩)
    exact bodyPost_ret (v := .int .i64 2) (by simp [results, Try.results34, go_sem]) rfl ⟨rfl, K1.out.allocR _⟩
  · have h1 : (s.size : Int) ≤ k := by omega
    clear hk
    go_enter Try.func34, Try.ntmps34
    go_wp2_with (go_at_call 35; refine (HL.out _ (Keep.refl _ _)).mono ?_; rintro e W1 ⟨rfl, hk⟩; have K1 := Lib.hid hk; clear hk; obtain ⟨q, hq⟩ : ∃ q, W1.heap.size = q := ⟨_, rfl⟩)
    exact bodyPost_ret (v := .int .i64 2) (by simp [results, Try.results34, go_sem]) rfl ⟨rfl, K1.out.allocR _⟩
theorem wpList_copy_pk {w : World} {ops : Array Oper} {rest : List Oper} {o : Oper} {a : Act} {Q : Exit → Act → World → Prop} (hgd : o.guard = none) (s x : Operand)
    (ho : o.op = .call { callee := .builtin .append, args := #[s, x], argTypes := #[27, 27] })
    (b0 base g : Nat) (ps : List Pk) (v : Value) (hs : a.eval s = .slice (some ⟨g, 0, none⟩) 0 0) (hx : a.eval x = v) (hb0 : b0 ≤ w.heap.size) (hgb : b0 ≤ g) (hg : w.heap[g]? = some (.cells #[] 34 (0, 0))) (hv : w.ownsRow base 34 2 v ps.length (flat ps)) (h64 : ps.length ≤ 64)
    (h : ∀ v' w', w'.ownsRow b0 34 2 v' ps.length (flat ps) → Keep (fun _ => False) w w' → wpList Try.prog ops Q rest (a.put o.dst v') w') : wpList Try.prog ops Q (o :: rest) a w := by
  refine wpList_plain hgd fun K hK => ?_
  obtain ⟨v', w', hrun, h1, h2⟩ := run_copy_pk o.type b0 base g ps v w hb0 hgb hg hv h64
  unfold Oper.wp
  have hex : (execOp a.eval o).run Try.prog w = .ok (.value v') w' := by
    unfold execOp
    simp only [ho, resolve, invoke, builtin, Sem.run_bind, Sem.run_pure, Result.andThen_ok, List.map_toArray, List.map_cons, List.map_nil, hs, hx, hrun]
  rw [hex]
  exact hK _ _ (h _ _ h1 h2)
theorem RefAt.put2 {rb base : Nat} {most : Int} {v : Value} {ps ps' : List Pk} {c0 c1 c2 c3 : Int} {w w2 : World} {r : Nat} {v2 : Value} (h : RefAt w rb base most v ps c0 c1 c2 c3) (k : Keep (fun _ => False) w w2) (hr : w.heap.size ≤ r) (hb : base ≤ w.heap.size) (ho : w2.ownsRow r 34 2 v2 ps'.length (flat ps')) :
    Hid (RefAt (w2.setCell ⟨rb, 1, none⟩ v2) rb base most v2 ps' c0 c1 c2 c3 ∧ Keep (fun i => i = rb) w (w2.setCell ⟨rb, 1, none⟩ v2)) := by
  have hrb : rb < w.heap.size := lt_of_block h.block
  have hB := k.heap h.block (fun h => h)
  refine Lib.hid ⟨⟨heap_setCell_at hB, ?_⟩, (k.mono (fun _ h => h.elim)).trans (Keep.setCell _ _ rfl)⟩
  exact ownsRow_base (ownsRow_keep' ho (Keep.setCell (S := fun j => j = rb) _ _ rfl) (fun j hj e => by
      have := (ho.lt j hj).1
      omega)) (Nat.le_trans hb hr)
theorem _root_.Go.World.ownsRow.spot {w : World} {base g n cap : Nat} {e : TypeId} {size : Nat} {xs : List Value} (h : w.ownsRow base e size (.slice (some ⟨g, 0, none⟩) n cap) n xs) (j : Nat) : w.frozen? ⟨g, j, none⟩ = false := by
  rcases h.2 with ⟨h', _⟩ | ⟨g', cap', cur, h', hb, hg, _⟩
  · simp at h'
  · simp only [Value.slice.injEq, Option.some.injEq, Addr.mk.injEq, and_true, true_and] at h'
    obtain ⟨rfl, _⟩ := h'
    exact free_of hg j
theorem turn_mid {q rb base k cp : Nat} {w W1 X Y : World} {s : ByteArray} {b : UInt8} {f most : Int} {v : Value} {ps : List Pk} {c0 c1 c2 c3 : Int} (hk : k < s.size) (_hcp : s.size ≤ cp) (hq : W1.heap.size = q) (K1 : Keep (fun _ => False) w W1) (KX : Keep (fun _ => False) (W1.alloc (.cells #[.int .i64 f, .string s] 34)) X)
    (HB : X.heap[q + 1]? = some (.cells (bytesRow s cp) 5 ((bytesRow s cp).size, (bytesRow s cp).size + 1))) (HQ : X.heap[q]? = some (.cells #[.int .i64 f, .string s] 34 (0, 0))) (H : RefAt w rb base most v ps c0 c1 c2 c3) (_hrq : rb < q) (hs : X.heap.size = q + 1 + 1) (hY : X.setCell ⟨q + 1, k, none⟩ (.int .u8 ((s.data[k].toNat ^^^ b.toNat : Nat) : Int)) = Y) :
    Hid (RefAt (Y.alloc (.cells #[] 34)) rb base most v ps c0 c1 c2 c3) ∧ (Y.alloc (.cells #[] 34)).heap.size = q + 3 ∧ (Y.alloc (.cells #[] 34)).heap[q + 2]? = some (.cells #[] 34 (0, 0)) ∧ Hid (Keep (fun _ => False) w (Y.alloc (.cells #[] 34))) ∧
      Hid ((Y.alloc (.cells #[] 34)).heap[q]? = some (.cells #[.int .i64 f, .string s] 34 (0, 0)) ∧ (Y.alloc (.cells #[] 34)).heap[q + 1]? = some (.cells ((bytesRow s cp).setIfInBounds k (.int .u8 ((s.data[k] ^^^ b).toNat : Int))) 5 ((bytesRow s cp).size, (bytesRow s cp).size + 1))) := by
  have hsz : Y.heap.size = q + 2 := by rw [← hY]; simpa using hs
  have k1 : Keep (fun _ => False) w X := (K1.allocR _).trans KX
  have hwq : w.heap.size ≤ q := by rw [← hq]; exact K1.size
  have k2 : Keep (fun _ => False) w Y := by rw [← hY]; exact k1.setNew (p := ⟨q + 1, k, none⟩) (by dsimp only; omega) _
  have kc : Keep (fun j => j = q + 1) X Y := by rw [← hY]; exact Keep.setCell _ _ rfl
  have hn : (Y.alloc (.cells #[] 34)).heap[q + 2]? = some (.cells #[] 34 (0, 0)) := by rw [← hsz]; exact heap_alloc_new _ _
  have hsz2 : (Y.alloc (.cells #[] 34)).heap.size = q + 3 := by
    show (Y.heap.push _).size = _
    rw [Array.size_push, hsz]
  have h1 : Y.heap[q + 1]? = some (.cells ((bytesRow s cp).setIfInBounds k (.int .u8 ((s.data[k] ^^^ b).toNat : Int))) 5 ((bytesRow s cp).size, (bytesRow s cp).size + 1)) := by
    rw [← hY, UInt8.toNat_xor]
    exact heap_setCell_fr HB
  exact ⟨Lib.hid (H.keep0 (k2.allocR _)), hsz2, hn, Lib.hid (k2.allocR _), Lib.hid ⟨(Keep.alloc (fun _ => False) _ _).heap (kc.heap HQ (by omega)) (fun h => h), (Keep.alloc (fun _ => False) _ _).heap h1 (fun h => h)⟩⟩
theorem turn_free {X : World} {t cp k : Nat} {s : ByteArray} (h : X.heap[t]? = some (.cells (bytesRow s cp) 5 ((bytesRow s cp).size, (bytesRow s cp).size + 1))) (hk : k < s.size) (hcp : s.size ≤ cp) : X.frozen? ⟨t, k, none⟩ = false := by
  have hsz : (bytesRow s cp).size = cp := by
    have : s.data.size = s.size := rfl
    simp [bytesRow]; omega
  simp only [World.frozen?, h]
  rw [hsz]
  simp; omega
set_option maxHeartbeats 4000000 in
theorem ref_turn_ok (rb base : Nat) (most : Int) (v : Value) (ps : List Pk) (c0 c1 c2 c3 : Int) (i k : Nat) (f : Int) (s : ByteArray) (b : UInt8) (w : World) (h : RefAt w rb base most v ps c0 c1 c2 c3) (hi : ps[i]? = some (f, s)) (hk : k < s.size) (h64 : ps.length ≤ 64) (hb : base ≤ w.heap.size) :
    Calls Try.prog 34 #[.pointer (some ⟨rb, 0, none⟩), .int .i64 i, .int .i64 k, .int .u8 (b.toNat : Int)] w fun e w' => e = .returned (.int .i64 0) ∧ RefPost rb base most v (ps.set i (f, turned s k b)) c0 c1 c2 c3 w w' := by
  have HL : Hid (∀ W, Keep (fun _ => False) w W → Calls Try.prog 35 #[.pointer (some ⟨rb, 0, none⟩), .int .i64 i] W fun e w' => e = .returned (.tuple #[.agg #[.int .i64 f, .string s], .int .i64 0]) ∧ Keep (fun _ => False) W w') := fun W k => ref_look_ok rb base most v ps c0 c1 c2 c3 i f s W (h.keep0 k) hi
  have H := Lib.hid h
  have HI := Lib.hid hi
  have g0 : ¬ (k : Int) < 0 := by omega
  have g1 : ¬ (s.size : Int) ≤ (k : Int) := by omega
  have HSB := Lib.hid (str_bytes s)
  have hil : i < ps.length := (List.getElem?_eq_some_iff.1 hi).1
  have HLP : Hid (0 < ps.length) := by show 0 < _; omega
  have HIL := Lib.hid hil
  clear hil
  have HRB := Lib.hid (lt_of_block h.block)
  obtain ⟨av, cv, rfl, h1, -⟩ := h.slice
  have hx := u8_xor (s.data[k].toNat : Int) (b.toNat : Int) (by omega) (by have := UInt8.toNat_lt s.data[k]; omega) (by omega) (by have := UInt8.toNat_lt b; omega)
  clear h hi
  go_enter Try.func34, Try.ntmps34
  go_wp2_with (first | (at_builtin; obtain ⟨Y, hY⟩ : ∃ Y, X.setCell ⟨q + 1, k, none⟩ (.int .u8 ((s.data[k].toNat ^^^ b.toNat : Nat) : Int)) = Y := ⟨_, rfl⟩; rw [hY]; obtain ⟨y1, y2, y3, y4, y5⟩ := turn_mid hk hcp HQ.out K1.out KX.out HBX.out HAQ.out H.out HRQ.out hs hY; refine wpList_copy_pk rfl _ _ rfl (q + 2) base (q + 2) ps (.slice av ps.length cv) rfl rfl (by rw [y2]; omega) (Nat.le_refl _) y3 y1.out.row h64 ?_; intro v' w' ho hk'; obtain ⟨g2, cap2, rfl, hg2, hc2⟩ := World.ownsRow.form ho HLP.out; have HG2 := Lib.hid hg2; clear hg2 hc2; have KW := Lib.hid (y4.out.trans hk'); have HO := Lib.hid ho; have H5 := Lib.hid (hk'.heap y5.out.1 (fun h => h)); have H6 := Lib.hid (hk'.heap y5.out.2 (fun h => h)); have B := KW.out.heap H.out.block (fun h => h); have e0 : w'.cell? ⟨rb, 1, none⟩ = some (.slice av ps.length cv) := cell_of B 1; have e1 : w'.frozen? ⟨rb, 1, none⟩ = false := free_of B 1; clear B ho hk' y1 y2 y3 y4 y5 hY d1 d4 d5 hx) | (go_at_call 35; refine (HL.out _ (Keep.refl _ _)).mono ?_; rintro e W1 ⟨rfl, hk⟩; have K1 := Lib.hid hk; clear hk; obtain ⟨q, hq⟩ : ∃ q, W1.heap.size = q := ⟨_, rfl⟩; have HQ := Lib.hid hq; have HRQ : Hid (rb < q) := (by rw [← HQ.out]; exact Nat.lt_of_lt_of_le HRB.out K1.out.size); have n1 : ¬ rb = q + 1 := (by have := HRQ.out; omega); have n3 : rb < q + 1 + 1 := (by have := HRQ.out; omega); have n4 : ¬ rb = q + 1 + 1 := (by have := HRQ.out; omega); obtain ⟨X, cp, hcv, hcp, hX, hB, hs⟩ := HSB.out (W1.alloc (.cells #[.int .i64 f, .string s] 34)) (q + 1) (by show (W1.heap.push _).size = q + 1; rw [Array.size_push, hq]); have KX := Lib.hid hX; have HBX := Lib.hid hB; have hbk := bytesRow_at s cp k hk; have d4 : X.cell? ⟨q + 1, k, none⟩ = some (.int .u8 (s.data[k].toNat : Int)) := ((cell_of hB k).trans hbk); have d5 : X.frozen? ⟨q + 1, k, none⟩ = false := turn_free hB hk hcp; have H2 : Hid (RefAt X rb base most (.slice av ps.length cv) ps c0 c1 c2 c3) := H.out.keep0 ((K1.out.allocR _).trans hX); have d1 : X.cell? ⟨rb, 1, none⟩ = some (.slice av ps.length cv) := cell_of H2.out.block 1; have HAQ : Hid (X.heap[q]? = some (.cells #[.int .i64 f, .string s] 34 (0, 0))) := hX.heap (by rw [← hq]; exact heap_alloc_new _ _) (fun h => h); clear hbk hB hX))
  have hHY := H5.out
  have HZ : Hid (RefAt (w'.setCell ⟨rb, 1, none⟩ (.slice (some ⟨g2, 0, none⟩) ps.length cap2)) rb base most (.slice (some ⟨g2, 0, none⟩) ps.length cap2) ps c0 c1 c2 c3 ∧ Keep (fun i => i = rb) w (w'.setCell ⟨rb, 1, none⟩ (.slice (some ⟨g2, 0, none⟩) ps.length cap2))) := H.out.put2 KW.out (r := q + 2) (by have := K1.out.size; rw [HQ.out] at this; omega) hb HO.out
  obtain ⟨Z, hZ⟩ : ∃ Z, w'.setCell ⟨rb, 1, none⟩ (.slice (some ⟨g2, 0, none⟩) ps.length cap2) = Z := ⟨_, rfl⟩
  have KZ : Keep (fun j => j = rb) w' Z := by rw [← hZ]; exact Keep.setCell _ _ rfl
  have z1 : Z.heap[q]? = some (.cells #[.int .i64 f, .string s] 34 (0, 0)) := KZ.heap H5.out (by have := HRQ.out; omega)
  have z2 : Z.heap[q + 1]? = some (.cells ((bytesRow s cp).setIfInBounds k (.int .u8 ((s.data[k] ^^^ b).toNat : Int))) 5 ((bytesRow s cp).size, (bytesRow s cp).size + 1)) := KZ.heap H6.out (by have := HRQ.out; omega)
  rw [hZ] at HZ
  rw [hZ]
  have HB : Hid (Bs Z (some ⟨q + 1, 0, none⟩) (turned s k b)) := bs_turned hk z2
  have f0 : Z.cell? ⟨q, 0, none⟩ = some (.int .i64 f) := cell_of z1 0
  have f1 : Z.cell? ⟨rb, 1, none⟩ = some (.slice (some ⟨g2, 0, none⟩) ps.length cap2) := cell_of HZ.out.1.block 1
  obtain ⟨_, hg, hgb, hgn, p0, p1⟩ := HZ.out.1.packet i (f, s) HI.out
  simp only [Option.some.injEq, Addr.mk.injEq, and_true] at hg
  subst hg
  dsimp only at p0 p1
  have HGN := Lib.hid hgn
  have p2 : Z.frozen? ⟨g2, i * 2, none⟩ = false := HZ.out.1.row.spot _
  have p3 : Z.frozen? ⟨g2, i * 2 + 1, none⟩ = false := HZ.out.1.row.spot _
  have cvv : ∀ d, (convert 28 9 (.slice (some ⟨q + 1, 0, none⟩) s.size cp)).run Try.prog { Z with drawn := d } = .ok (.string (turned s k b)) { Z with drawn := d } := by
    intro d
    have hB : Bs { Z with drawn := d } (some ⟨q + 1, 0, none⟩) (turned s k b) := HB.out
    have := hB.conv cp
    rwa [turned_size] at this
  have cvd : (convert 28 9 (.slice (some ⟨q + 1, 0, none⟩) s.size cp)).run Try.prog Z.drew = .ok (.string (turned s k b)) Z.drew := cvv (Z.drawn + 1)
  have n5 : ¬ g2 = rb := hgn
  have qb0 := HIL.out
  obtain ⟨m, hm⟩ : ∃ m, ps.length = m := ⟨_, rfl⟩
  have HM := Lib.hid hm
  rw [hm] at f1 h1 qb0
  rw [hm]
  clear hm z1 z2 hZ KZ hHY e0 e1 g0 g1 hgn hgb hcv hs hq cvv
  have qa : (0 : Int) ≤ (i : Int) := by omega
  have qb : (i : Int) < (m : Int) := by omega
  go_still_tail 11, (by kernel_rfl)
  go_wp2_with fail
  refine bodyPost_ret (v := .int .i64 0) (by simp [results, Try.results34, go_sem]) rfl ⟨rfl, ?_⟩
  have KT : Keep (fun j => j = g2) Z ((Z.setCell ⟨g2, i * 2, none⟩ (.int .i64 f)).setCell ⟨g2, i * 2 + 1, none⟩ (.string (turned s k b))) := Keep.two _ _ rfl rfl
  have hg2 : w.heap.size ≤ g2 := by
    have e1 := K1.out.size
    have e2 := HG2.out
    rw [HQ.out] at e1
    omega
  have hfl : (flat ps).set (i * 2) (.int .i64 f) = flat ps := by
    have e := (flat_at ps i (f, s) HI.out).1
    apply List.ext_getElem?
    intro j
    rw [List.getElem?_set]
    split
    · next h => rw [← h, e]; simp [(List.getElem?_eq_some_iff.1 e).1]
    · rfl
  refine RefPost.drew ⟨.slice (some ⟨g2, 0, none⟩) ps.length cap2, ⟨?_, ?_⟩, ?_, ?_⟩
  · exact KT.heap HZ.out.1.block (fun e => HGN.out e.symm)
  · rw [List.length_set, flat_set ps i f s (turned s k b) HI.out]
    have r1 := (HZ.out.1.row.stored (i * 2) (.int .i64 f)).1
    rw [hfl] at r1
    exact (r1.stored (i * 2 + 1) (.string (turned s k b))).1
  · intro g hg
    simp only [Value.ownBlock, Option.some.injEq] at hg
    subst hg
    exact .inr hg2
  · exact HZ.out.2.step KT (fun j hj => .inr (by subst hj; exact hg2))
end Go.Proofs.Ythcagpgdekhaeaa
