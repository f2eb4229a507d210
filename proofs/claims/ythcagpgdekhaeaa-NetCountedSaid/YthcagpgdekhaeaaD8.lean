/- A packet, sent to both nets; its bytes turned between. -/
import Derived.Test.YthcagpgdekhaeaaD7
import Derived.LoopTactic
namespace Go.Proofs.Ythcagpgdekhaeaa
open Go.RowKit
/-- The first n cells of the row in block g are bytes. -/
def BytesAt (w : World) (g n : Nat) : Prop := ∃ cur, w.heap[g]? = some (.cells cur 5 (0, 0)) ∧ ∀ j, j < n → ∃ z, cur[j]? = some (.int .u8 z)
theorem BytesAt.keep {S : Nat → Prop} {w w' : World} {g n : Nat} (h : BytesAt w g n) (k : Keep S w w') (hS : ¬ S g) : BytesAt w' g n := by
  obtain ⟨cur, h1, h2⟩ := h
  exact ⟨cur, k.heap h1 hS, h2⟩
theorem BytesAt.set {w : World} {g n : Nat} (h : BytesAt w g n) (i : Nat) (z : Int) : BytesAt (w.setCell ⟨g, i, none⟩ (.int .u8 z)) g n := by
  obtain ⟨cur, h1, h2⟩ := h
  refine ⟨_, heap_setCell_fr h1, fun j hj => ?_⟩
  obtain ⟨y, hy⟩ := h2 j hj
  by_cases hij : i = j
  · subst hij
    have hs : i < cur.size := (Array.getElem?_eq_some_iff.1 hy).1
    exact ⟨z, by rw [Array.getElem?_setIfInBounds_self_of_lt hs]⟩
  · exact ⟨y, by rw [Array.getElem?_setIfInBounds_ne hij]; exact hy⟩
theorem BytesAt.of_row {w : World} {b0 g cap : Nat} {s : ByteArray} (h : w.ownsRow b0 5 1 (.slice (some ⟨g, 0, none⟩) s.size cap) s.size (vals s)) : BytesAt w g s.size := by
  rcases h.2 with ⟨hv, _⟩ | ⟨g', cap', cur, hv, _, hg, hc, hm, hs, ht⟩
  · simp at hv
  · simp only [Value.slice.injEq, Option.some.injEq, Addr.mk.injEq, and_true, true_and] at hv
    obtain ⟨rfl, rfl⟩ := hv
    refine ⟨cur, hg, fun j hj => ⟨(s[j].toNat : Int), ?_⟩⟩
    have h1 := vals_at s j hj
    rw [← ht, List.getElem?_take, if_pos (by omega)] at h1
    simpa using h1
set_option maxHeartbeats 4000000 in
set_option maxRecDepth 100000 in
theorem do_send {w W : World} {nb rb : Nat} {most : Int} {st : St} {P : Nat → Prop} (n : Nat) (hm : 1 ≤ most) (h64 : most ≤ 64) (hf : Fine most st n) (hn : n ≤ 1000000) (h : Duo w W nb rb most st st P) (x : A) (hk : x.kd = 0) (hbs : Bs w x.da x.s) (hsz : x.s.size ≤ 1000000) : Calls Try.prog 18 #[.pointer (some ⟨nb, 0, none⟩), .pointer (some ⟨rb, 0, none⟩), x.v] W (DoneDuo w nb rb most st P W) := by
  obtain ⟨v, st1, hg, hnet, href⟩ := op_send most st n hm h64 hf hn x.f x.da x.s x.cap
  have HG := Lib.hid hg
  obtain ⟨xkd, xf, xda, xcap, xs, xi, xpos, xb⟩ := x
  unfold A.v
  dsimp only at hnet href hbs hsz hk ⊢
  subst hk
  have HBW : Hid (Bs W xda xs) := hbs.keep0 h.keep
  have HBS := Lib.hid hbs
  have HPL : Hid (∀ i, P i → i < W.heap.size) := fun i hi => h.lt i hi
  have HWW : Hid (w.heap.size ≤ W.heap.size) := h.keep.size
  obtain ⟨q, hq⟩ : ∃ q, W.heap.size = q := ⟨_, rfl⟩
  have HQ := Lib.hid hq
  obtain ⟨X, hX⟩ : ∃ X, W.alloc (.cells #[.int .i64 0, .int .i64 xf, .slice xda xs.size xcap, .int .i64 xi, .int .i64 xpos, .int .u8 (xb.toNat : Int)] 30) = X := ⟨_, rfl⟩
  have KX : Keep (fun _ => False) W X := by rw [← hX]; exact Keep.alloc _ _ _
  have BX : X.heap[q]? = some (.cells #[.int .i64 0, .int .i64 xf, .slice xda xs.size xcap, .int .i64 xi, .int .i64 xpos, .int .u8 (xb.toNat : Int)] 30 (0, 0)) := by rw [← hX, ← hq]; exact heap_alloc_new _ _
  have hsX : X.heap.size = q + 1 := by
    rw [← hX]
    show (W.heap.push _).size = _
    rw [Array.size_push, hq]
  obtain ⟨Y, hY⟩ : ∃ Y, X.alloc (.cells #[] 5) = Y := ⟨_, rfl⟩
  have KY : Keep (fun _ => False) W Y := by rw [← hY]; exact KX.allocR _
  have BY : Y.heap[q]? = some (.cells #[.int .i64 0, .int .i64 xf, .slice xda xs.size xcap, .int .i64 xi, .int .i64 xpos, .int .u8 (xb.toNat : Int)] 30 (0, 0)) := by rw [← hY]; exact (Keep.alloc (fun _ => False) _ _).heap BX (fun h => h)
  have BG : Y.heap[q + 1]? = some (.cells #[] 5 (0, 0)) := by rw [← hY, ← hsX]; exact heap_alloc_new _ _
  have hsY : q + 1 ≤ Y.heap.size := by have := lt_of_block BG; omega
  have HYB : Hid (q + 1 ≤ Y.heap.size ∧ Y.heap[q + 1]? = some (.cells #[] 5 (0, 0)) ∧ Bs Y xda xs ∧ Keep (fun _ => False) W Y ∧ Y.heap[q]? = some (.cells #[.int .i64 0, .int .i64 xf, .slice xda xs.size xcap, .int .i64 xi, .int .i64 xpos, .int .u8 (xb.toNat : Int)] 30 (0, 0))) := ⟨hsY, BG, HBW.out.keep0 KY, KY, BY⟩
  have HN : Hid (∀ (w' : World) (a' : Option Addr) (cap' : Nat), Keep (fun _ => False) W w' → Bs w' a' xs → Calls Try.prog 11 #[.pointer (some ⟨nb, 0, none⟩), .int .i64 xf, .slice a' xs.size cap'] w' fun e w'' => e = .returned (.int .i64 v) ∧ Duo w w'' nb rb most st1 st (fun i => P i ∨ (W.heap.size ≤ i ∧ i < w'.heap.size)) ∧ Keep (fun i => ¬ (P i ∨ (W.heap.size ≤ i ∧ i < w'.heap.size))) w' w'') :=
    fun w' a' cap' k hb => (h.fresh k).net (fun P' ho => hnet a' cap' w w' nb P' ho hb)
  have HF : Hid (∀ (W1 : World) (P1 : Nat → Prop), Duo w W1 nb rb most st1 st P1 → Calls Try.prog 30 #[.pointer (some ⟨rb, 0, none⟩), .int .i64 xf, .slice xda xs.size xcap] W1 fun e w' => e = .returned (.int .i64 v) ∧ Duo w w' nb rb most st1 st1 P1 ∧ Keep (fun i => ¬ P1 i) W1 w') :=
    fun W1 P1 hd => hd.ref (fun vr hr hb => href W1 rb w.heap.size vr hr hb (HBS.out.keep0 hd.keep))
  have d0 : X.cell? ⟨q, 0, none⟩ = some (.int .i64 0) := cell_of BX 0
  have y1 : Y.cell? ⟨q, 1, none⟩ = some (.int .i64 xf) := cell_of BY 1
  have y2 : Y.cell? ⟨q, 2, none⟩ = some (.slice xda xs.size xcap) := cell_of BY 2
  have HXS := Lib.hid hsz
  clear hnet href hg h hf KX BX KY BG BY hbs hsY hsz
  go_enter Try.func18, Try.ntmps18
  go_wp2_with (first | (at_builtin; refine wpList_copy_bs rfl _ _ rfl (q + 1) (q + 1) xs xda xcap rfl rfl HYB.out.1 (Nat.le_refl _) HYB.out.2.1 HYB.out.2.2.1 HXS.out ?_; intro g' cap' w' ho hk; have HO := Lib.hid ho; have KW : Hid (Keep (fun _ => False) W w') := HYB.out.2.2.2.1.trans hk; have BW : Hid (w'.heap[q]? = some (.cells #[.int .i64 0, .int .i64 xf, .slice xda xs.size xcap, .int .i64 xi, .int .i64 xpos, .int .u8 (xb.toNat : Int)] 30 (0, 0))) := hk.heap HYB.out.2.2.2.2 (fun h => h); have w1 : w'.cell? ⟨q, 1, none⟩ = some (.int .i64 xf) := cell_of BW.out 1; clear ho hk y1 y2 d0 hX hY hsX) | (go_at_call 11; refine (HN.out _ _ _ KW.out (bs_of_row HO.out)).mono ?_; rintro e W1 ⟨rfl, hd, hk'⟩; have HD := Lib.hid hd; have K1 := Lib.hid hk'; clear hd hk'))
  have hgl : q + 1 ≤ g' ∧ g' < w'.heap.size := HO.out.lt g' rfl
  have hql : q < w'.heap.size := lt_of_block BW.out
  have hPq : P q ∨ (W.heap.size ≤ q ∧ q < w'.heap.size) := .inr ⟨Nat.le_of_eq HQ.out, hql⟩
  have hPg : P g' ∨ (W.heap.size ≤ g' ∧ g' < w'.heap.size) := .inr ⟨by have := HQ.out; omega, hgl.2⟩
  have B1 : Hid (W1.heap[q]? = some (.cells #[.int .i64 0, .int .i64 xf, .slice xda xs.size xcap, .int .i64 xi, .int .i64 xpos, .int .u8 (xb.toNat : Int)] 30 (0, 0))) := K1.out.heap BW.out (fun hc => hc hPq)
  have R1 : Hid (BytesAt W1 g' xs.size) := (BytesAt.of_row HO.out).keep K1.out (fun hc => hc hPg)
  have HL : Hid (∀ wr, Keep (fun j => j = g') W1 wr → Duo w wr nb rb most st1 st (fun i => P i ∨ (W.heap.size ≤ i ∧ i < w'.heap.size))) := fun wr k => HD.out.keepP k (fun i hi => ⟨hi ▸ hPg, by have := HQ.out; have := HWW.out; omega⟩)
  have HNE : Hid (q ≠ g') := by show q ≠ g'; omega
  have HFin : Hid (Keep (fun i => ¬ P i) W W1) := (keepN KW.out).trans (K1.out.mono (fun i hi hp => hi (.inl hp)))
  have HNP : Hid (¬ P g') := fun hp => by have := HPL.out g' hp; have := HQ.out; omega
  clear hgl hql hPq hPg w1 hq
  obtain ⟨m, hM⟩ : ∃ m, xs.size = m := ⟨_, rfl⟩
  have HMX := Lib.hid hM
  rw [hM] at HF R1 HXS
  rw [hM]
  have hmx : m ≤ 1000000 := HXS.out
  clear hM
  go_loopw [33] (fun t wr => ∃ i : Nat, i ≤ m ∧ t = .int .i64 i ∧ Keep (fun j => j = g') W1 wr ∧ BytesAt wr g' m) (fun t _ => m - (intOf t).toNat)
  case atStart => exact ⟨0, Nat.zero_le _, rfl, Keep.refl _ _, R1.out⟩
  case round =>
    obtain ⟨i, hi, rfl, kw, hbt⟩ := hrel
    have KWR := Lib.hid kw
    have HBT := Lib.hid hbt
    clear kw hbt
    by_cases hlt : i < m
    · obtain ⟨cur, hc, hz⟩ := HBT.out
      obtain ⟨z, hz⟩ := hz i hlt
      have r1 : wr.cell? ⟨g', i, none⟩ = some (.int .u8 z) := (cell_of hc i).trans hz
      have r2 : wr.frozen? ⟨g', i, none⟩ = false := free_of hc i
      have hlt' : (i : Int) < m := by omega
      clear hc hz
      go_wp2_with fail
      go_roundw
      case rel => exact ⟨i + 1, by omega, by go_num, KWR.out.trans (Keep.setCell _ _ rfl), HBT.out.set i _⟩
      case measure => simp [intOf]; omega
    · have him : i = m := by omega
      subst him
      have r3 : wr.heap[q]? = some (.cells #[.int .i64 0, .int .i64 xf, .slice xda xs.size xcap, .int .i64 xi, .int .i64 xpos, .int .u8 (xb.toNat : Int)] 30 (0, 0)) := KWR.out.heap B1.out HNE.out
      have e1 : wr.cell? ⟨q, 1, none⟩ = some (.int .i64 xf) := cell_of r3 1
      have e2 : wr.cell? ⟨q, 2, none⟩ = some (.slice xda xs.size xcap) := cell_of r3 2
      rw [HMX.out] at e2
      clear r3
      go_wp2_with (go_at_call 30; refine (HF.out _ _ (HL.out _ KWR.out)).mono ?_; rintro e W3 ⟨rfl, hd, hk'⟩; have HD2 := Lib.hid hd; have K2 := Lib.hid hk'; clear hd hk')
      refine bodyPost_ret (v := .bool true) (by simp [results, Try.results18, go_sem]) rfl ⟨rfl, st1, HG.out, HD2.out.less (fun i hi => .inl hi), ?_⟩
      exact (HFin.out.trans (KWR.out.mono (fun j hj hp => HNP.out (hj ▸ hp)))).trans (K2.out.mono (fun i hi hp => hi (.inl hp)))
end Go.Proofs.Ythcagpgdekhaeaa
