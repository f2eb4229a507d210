/- One act, done to both nets. -/
import Derived.Test.YthcagpgdekhaeaaD2
import Derived.Test.YthcagpgdekhaeaaN12
namespace Go.Proofs.Ythcagpgdekhaeaa
open Go.RowKit
def A.v (x : A) : Value := .agg #[.int .i64 x.kd, .int .i64 x.f, .slice x.da x.s.size x.cap, .int .i64 x.i, .int .i64 x.pos, .int .u8 (x.b.toNat : Int)]
def DoneDuo (w : World) (nb rb : Nat) (most : Int) (st : St) (P : Nat → Prop) (W : World) (e : Ending) (w' : World) : Prop :=
  e = .returned (.bool true) ∧ ∃ st1, Goes most st st1 ∧ Duo w w' nb rb most st1 st1 P ∧ Keep (fun i => ¬ P i) W w'
set_option maxHeartbeats 2000000 in
theorem do_take {w W : World} {nb rb : Nat} {most : Int} {st : St} {P : Nat → Prop} (n : Nat) (hm : 1 ≤ most) (h64 : most ≤ 64) (hf : Fine most st n) (hn : n ≤ 1000000) (h : Duo w W nb rb most st st P) (x : A) (hk : x.kd = 1) : Calls Try.prog 18 #[.pointer (some ⟨nb, 0, none⟩), .pointer (some ⟨rb, 0, none⟩), x.v] W (DoneDuo w nb rb most st P W) := by
  obtain ⟨f, s, v, st1, hg, hnet, href⟩ := op_take most st n hm h64 hf hn x.i
  
  have HG := Lib.hid hg
  have HN : Hid (∀ X, Keep (fun _ => False) W X → Calls Try.prog 12 #[.pointer (some ⟨nb, 0, none⟩), .int .i64 x.i] X fun e w' => e = .returned (.tuple #[.agg #[.int .i64 f, .string s], .int .i64 v]) ∧ Duo w w' nb rb most st1 st (fun i => P i ∨ (W.heap.size ≤ i ∧ i < X.heap.size)) ∧ Keep (fun i => ¬ (P i ∨ (W.heap.size ≤ i ∧ i < X.heap.size))) X w') :=
    fun X k => (h.fresh k).net (fun P' ho => hnet w X nb P' ho)
  have HF : Hid (∀ (W1 X : World) (P1 : Nat → Prop), Duo w W1 nb rb most st1 st P1 → Keep (fun _ => False) W1 X → Calls Try.prog 31 #[.pointer (some ⟨rb, 0, none⟩), .int .i64 x.i] X fun e w' => e = .returned (.tuple #[.agg #[.int .i64 f, .string s], .int .i64 v]) ∧ Duo w w' nb rb most st1 st1 (fun i => P1 i ∨ (W1.heap.size ≤ i ∧ i < X.heap.size)) ∧ Keep (fun i => ¬ (P1 i ∨ (W1.heap.size ≤ i ∧ i < X.heap.size))) X w') :=
    fun W1 X P1 hd k => (hd.fresh k).ref (fun vr hr hb => href X rb w.heap.size vr hr hb)
  clear hnet href hg h hf
  have HE := fun W => equalIn34 9998 f f s s W
  simp only [and_self, decide_true] at HE
  obtain ⟨xkd, xf, xda, xcap, xs, xi, xpos, xb⟩ := x
  unfold A.v
  dsimp only at HN HF ⊢
  subst hk
  obtain ⟨q, hq⟩ : ∃ q, W.heap.size = q := ⟨_, rfl⟩
  have HQ := Lib.hid hq
  go_enter Try.func18, Try.ntmps18
  go_wp2_with (first | (go_at_call 31; refine (HF.out _ _ _ HD.out (Keep.alloc _ _ _)).mono ?_; rintro e W3 ⟨rfl, hd, hk'⟩; have HD2 := Lib.hid hd; have K2 := Lib.hid hk'; have B2 : Hid (W3.heap[q1]? = some (.cells #[.int .i64 f, .string s] 34 (0, 0))) := (by rw [← HQ1.out]; exact hk'.heap (heap_alloc_new W1 _) (fun hc => hc (.inr ⟨Nat.le_refl _, (by show _ < (W1.heap.push _).size; rw [Array.size_push]; omega)⟩))); have d4 : W3.cell? ⟨q1, 0, none⟩ = some (.int .i64 f) := cell_of B2.out 0; have d5 : W3.cell? ⟨q1, 1, none⟩ = some (.string s) := cell_of B2.out 1; clear hd hk'; obtain ⟨q3, hq3⟩ : ∃ q3, W3.heap.size = q3 := ⟨_, rfl⟩; have HQ3 := Lib.hid hq3; have n3 : q1 < q3 := (by rw [← HQ3.out]; exact lt_of_block B2.out); have n4 : ¬ q1 = q3 := (by omega)) | (go_at_call 12; refine (HN.out _ (Keep.alloc _ _ _)).mono ?_; rintro e W1 ⟨rfl, hd, hk'⟩; have HD := Lib.hid hd; have K1 := Lib.hid hk'; have B1 : Hid (W1.heap[q]? = some (.cells #[.int .i64 1, .int .i64 xf, .slice xda xs.size xcap, .int .i64 xi, .int .i64 xpos, .int .u8 (xb.toNat : Int)] 30 (0, 0))) := (by rw [← HQ.out]; exact hk'.heap (heap_alloc_new W _) (fun hc => hc (.inr ⟨Nat.le_refl _, (by show _ < (W.heap.push _).size; rw [Array.size_push]; omega)⟩))); have d3 : W1.cell? ⟨q, 3, none⟩ = some (.int .i64 xi) := cell_of B1.out 3; clear hd hk'; obtain ⟨q1, hq1⟩ : ∃ q1, W1.heap.size = q1 := ⟨_, rfl⟩; have HQ1 := Lib.hid hq1; have n1 : q < q1 := (by rw [← HQ1.out]; exact lt_of_block B1.out); have n2 : ¬ q = q1 := (by omega)))
  refine bodyPost_ret (v := .bool true) (by simp [results, Try.results18, go_sem]) rfl ⟨rfl, st1, HG.out, (HD2.out.keep0 (Keep.alloc _ _ _)).less (fun i hi => .inl (.inl hi)), ?_⟩
  have k1 := (keepN (Keep.alloc _ W _) : Keep (fun i => ¬ P i) W (W.alloc _)).trans (K1.out.mono (fun i hi hp => hi (.inl hp)))
  exact ((k1.allocR _).trans (K2.out.mono (fun i hi hp => hi (.inl (.inl hp))))).allocR _
set_option maxHeartbeats 2000000 in
theorem do_look {w W : World} {nb rb : Nat} {most : Int} {st : St} {P : Nat → Prop} (n : Nat) (hm : 1 ≤ most) (h64 : most ≤ 64) (hf : Fine most st n) (h : Duo w W nb rb most st st P) (x : A) (hk : x.kd ≠ 0 ∧ x.kd ≠ 1 ∧ x.kd ≠ 2 ∧ x.kd ≠ 3 ∧ x.kd ≠ 4) : Calls Try.prog 18 #[.pointer (some ⟨nb, 0, none⟩), .pointer (some ⟨rb, 0, none⟩), x.v] W (DoneDuo w nb rb most st P W) := by
  obtain ⟨f, s, v, hnet, href⟩ := op_look most st n hm h64 hf x.i
  have hg := Goes.refl (st := st) hf.len
  have HG := Lib.hid hg
  have HN : Hid (∀ X, Keep (fun _ => False) W X → Calls Try.prog 16 #[.pointer (some ⟨nb, 0, none⟩), .int .i64 x.i] X fun e w' => e = .returned (.tuple #[.agg #[.int .i64 f, .string s], .int .i64 v]) ∧ Duo w w' nb rb most st st (fun i => P i ∨ (W.heap.size ≤ i ∧ i < X.heap.size)) ∧ Keep (fun i => ¬ (P i ∨ (W.heap.size ≤ i ∧ i < X.heap.size))) X w') :=
    fun X k => (h.fresh k).net (fun P' ho => hnet w X nb P' ho)
  have HF : Hid (∀ (W1 X : World) (P1 : Nat → Prop), Duo w W1 nb rb most st st P1 → Keep (fun _ => False) W1 X → Calls Try.prog 35 #[.pointer (some ⟨rb, 0, none⟩), .int .i64 x.i] X fun e w' => e = .returned (.tuple #[.agg #[.int .i64 f, .string s], .int .i64 v]) ∧ Duo w w' nb rb most st st (fun i => P1 i ∨ (W1.heap.size ≤ i ∧ i < X.heap.size)) ∧ Keep (fun i => ¬ (P1 i ∨ (W1.heap.size ≤ i ∧ i < X.heap.size))) X w') :=
    fun W1 X P1 hd k => (hd.fresh k).ref (fun vr hr hb => href X rb w.heap.size vr hr hb)
  clear hnet href hg h hf
  have HE := fun W => equalIn34 9998 f f s s W
  simp only [and_self, decide_true] at HE
  obtain ⟨xkd, xf, xda, xcap, xs, xi, xpos, xb⟩ := x
  unfold A.v
  dsimp only at HN HF ⊢
  dsimp only at hk; obtain ⟨k0, k1, k2, k3, k4⟩ := hk; have j0 : (xkd == 0) = false := beq_eq_false_iff_ne.2 k0; have j1 : (xkd == 1) = false := beq_eq_false_iff_ne.2 k1; have j2 : (xkd == 2) = false := beq_eq_false_iff_ne.2 k2; have j3 : (xkd == 3) = false := beq_eq_false_iff_ne.2 k3; have j4 : (xkd == 4) = false := beq_eq_false_iff_ne.2 k4; clear k0 k1 k2 k3 k4
  obtain ⟨q, hq⟩ : ∃ q, W.heap.size = q := ⟨_, rfl⟩
  have HQ := Lib.hid hq
  go_enter Try.func18, Try.ntmps18
  go_wp2_with (first | (go_at_call 35; refine (HF.out _ _ _ HD.out (Keep.alloc _ _ _)).mono ?_; rintro e W3 ⟨rfl, hd, hk'⟩; have HD2 := Lib.hid hd; have K2 := Lib.hid hk'; have B2 : Hid (W3.heap[q1]? = some (.cells #[.int .i64 f, .string s] 34 (0, 0))) := (by rw [← HQ1.out]; exact hk'.heap (heap_alloc_new W1 _) (fun hc => hc (.inr ⟨Nat.le_refl _, (by show _ < (W1.heap.push _).size; rw [Array.size_push]; omega)⟩))); have d4 : W3.cell? ⟨q1, 0, none⟩ = some (.int .i64 f) := cell_of B2.out 0; have d5 : W3.cell? ⟨q1, 1, none⟩ = some (.string s) := cell_of B2.out 1; clear hd hk'; obtain ⟨q3, hq3⟩ : ∃ q3, W3.heap.size = q3 := ⟨_, rfl⟩; have HQ3 := Lib.hid hq3; have n3 : q1 < q3 := (by rw [← HQ3.out]; exact lt_of_block B2.out); have n4 : ¬ q1 = q3 := (by omega)) | (go_at_call 16; refine (HN.out _ (Keep.alloc _ _ _)).mono ?_; rintro e W1 ⟨rfl, hd, hk'⟩; have HD := Lib.hid hd; have K1 := Lib.hid hk'; have B1 : Hid (W1.heap[q]? = some (.cells #[.int .i64 xkd, .int .i64 xf, .slice xda xs.size xcap, .int .i64 xi, .int .i64 xpos, .int .u8 (xb.toNat : Int)] 30 (0, 0))) := (by rw [← HQ.out]; exact hk'.heap (heap_alloc_new W _) (fun hc => hc (.inr ⟨Nat.le_refl _, (by show _ < (W.heap.push _).size; rw [Array.size_push]; omega)⟩))); have d3 : W1.cell? ⟨q, 3, none⟩ = some (.int .i64 xi) := cell_of B1.out 3; clear hd hk'; obtain ⟨q1, hq1⟩ : ∃ q1, W1.heap.size = q1 := ⟨_, rfl⟩; have HQ1 := Lib.hid hq1; have n1 : q < q1 := (by rw [← HQ1.out]; exact lt_of_block B1.out); have n2 : ¬ q = q1 := (by omega)))
  refine bodyPost_ret (v := .bool true) (by simp [results, Try.results18, go_sem]) rfl ⟨rfl, st, HG.out, (HD2.out.keep0 (Keep.alloc _ _ _)).less (fun i hi => .inl (.inl hi)), ?_⟩
  have k1 := (keepN (Keep.alloc _ W _) : Keep (fun i => ¬ P i) W (W.alloc _)).trans (K1.out.mono (fun i hi hp => hi (.inl hp)))
  exact ((k1.allocR _).trans (K2.out.mono (fun i hi hp => hi (.inl (.inl hp))))).allocR _
end Go.Proofs.Ythcagpgdekhaeaa
