/- A net of the call's own, beside blocks that it leaves alone; what each method does to it. -/
import Derived.Test.YthcagpgdekhaeaaN9
namespace Go.Proofs.Ythcagpgdekhaeaa
open Go.RowKit
/-- The call that began in w made the net in block nb; what lies in the blocks of P is not the net's. -/
def Own (w W : World) (nb : Nat) (most : Int) (ps : List Pk) (c0 c1 c2 c3 : Int) (P : Nat → Prop) : Prop :=
  ∃ v, NetAt W nb w.heap.size most v ps c0 c1 c2 c3 ∧ w.heap.size ≤ nb ∧ Keep (fun _ => False) w W ∧ ∀ i, P i → i < W.heap.size ∧ i ≠ nb ∧ v.ownBlock ≠ some i
theorem Own.keep {w W : World} {nb : Nat} {most : Int} {ps : List Pk} {c0 c1 c2 c3 : Int} {P : Nat → Prop} (h : Own w W nb most ps c0 c1 c2 c3 P) : Keep (fun _ => False) w W := by
  obtain ⟨v, _, _, k, _⟩ := h
  exact k
theorem Own.post {w W W' : World} {nb : Nat} {most : Int} {ps ps' : List Pk} {c0 c1 c2 c3 e0 e1 e2 e3 : Int} {P : Nat → Prop} {v : Value} (hnb : w.heap.size ≤ nb) (k : Keep (fun _ => False) w W) (hn : NetAt W nb w.heap.size most v ps c0 c1 c2 c3) (hP : ∀ i, P i → i < W.heap.size ∧ i ≠ nb ∧ v.ownBlock ≠ some i)
    (hp : NetPost nb w.heap.size most v ps' e0 e1 e2 e3 W W') : Own w W' nb most ps' e0 e1 e2 e3 P ∧ Keep (fun i => ¬ P i) W W' := by
  obtain ⟨v', h1, h2, h3⟩ := hp
  refine ⟨⟨v', h1, hnb, k.step h3 (fun i hi => .inr ?_), fun i hi => ?_⟩, h3.mono (fun i hi hpi => ?_)⟩
  · rcases hi with rfl | hi
    · exact hnb
    · exact (hn.row.lt i hi).1
  · obtain ⟨a, b, c⟩ := hP i hi
    refine ⟨Nat.lt_of_lt_of_le a h3.size, b, fun e => ?_⟩
    rcases h2 with h2 | ⟨g, hg, h2⟩
    · exact c (h2 ▸ e)
    · rw [h2] at e
      simp at e
      omega
  · obtain ⟨a, b, c⟩ := hP i hpi
    rcases hi with rfl | hi
    · exact b rfl
    · exact c hi
theorem Own.keep0 {w W W' : World} {nb : Nat} {most : Int} {ps : List Pk} {c0 c1 c2 c3 : Int} {P : Nat → Prop} (h : Own w W nb most ps c0 c1 c2 c3 P) (k : Keep (fun _ => False) W W') : Own w W' nb most ps c0 c1 c2 c3 P := by
  obtain ⟨v, h1, h2, h3, h4⟩ := h
  exact ⟨v, h1.keep0 k, h2, h3.trans k, fun i hi => ⟨Nat.lt_of_lt_of_le (h4 i hi).1 k.size, (h4 i hi).2⟩⟩
/-- A step that writes into blocks of P alone, that the call made. -/
theorem Own.keepP {S P : Nat → Prop} {w W W' : World} {nb : Nat} {most : Int} {ps : List Pk} {c0 c1 c2 c3 : Int} (h : Own w W nb most ps c0 c1 c2 c3 P) (k : Keep S W W') (hS : ∀ i, S i → P i ∧ w.heap.size ≤ i) : Own w W' nb most ps c0 c1 c2 c3 P := by
  obtain ⟨v, h1, h2, h3, h4⟩ := h
  refine ⟨v, h1.keep k (fun hc => (h4 nb (hS nb hc).1).2.1 rfl) (fun g hg hc => (h4 g (hS g hc).1).2.2 hg), h2, h3.step k (fun i hi => .inr (hS i hi).2), fun i hi => ⟨Nat.lt_of_lt_of_le (h4 i hi).1 k.size, (h4 i hi).2⟩⟩
/-- More blocks are left alone: those that lie here and are not the net's. -/
theorem Own.fresh {P : Nat → Prop} {w W W' : World} {nb : Nat} {most : Int} {ps : List Pk} {c0 c1 c2 c3 : Int} (h : Own w W nb most ps c0 c1 c2 c3 P) (k : Keep (fun _ => False) W W') : Own w W' nb most ps c0 c1 c2 c3 (fun i => P i ∨ (W.heap.size ≤ i ∧ i < W'.heap.size)) := by
  have hlt : nb < W.heap.size := by obtain ⟨v, h1, _⟩ := h; exact lt_of_block h1.block
  obtain ⟨v, h1, h2, h3, h4⟩ := h.keep0 k
  refine ⟨v, h1, h2, h3, fun i hi => ?_⟩
  rcases hi with hi | hi
  · exact h4 i hi
  · refine ⟨hi.2, by omega, fun e => ?_⟩
    obtain ⟨v0, h1', _⟩ := h
    have hv : v0 = v := by
      have a := h1'.keep0 k |>.cells.2.1
      rw [h1.cells.2.1] at a
      simpa using a.symm
    subst hv
    have := (h1'.row.lt i e).2
    omega
theorem Own.less {P P' : Nat → Prop} {w W : World} {nb : Nat} {most : Int} {ps : List Pk} {c0 c1 c2 c3 : Int} (h : Own w W nb most ps c0 c1 c2 c3 P) (hp : ∀ i, P' i → P i) : Own w W nb most ps c0 c1 c2 c3 P' := by
  obtain ⟨v, h1, h2, h3, h4⟩ := h
  exact ⟨v, h1, h2, h3, fun i hi => h4 i (hp i hi)⟩
theorem own_new (most : Int) (w W : World) (P : Nat → Prop) (kw : Keep (fun _ => False) w W) (hP : ∀ i, P i → i < W.heap.size) (h1 : 1 ≤ most) (h2 : most ≤ 64) : Calls Try.prog 8 #[.int .i64 most] W fun e w' => ∃ nb, e = .returned (.pointer (some ⟨nb, 0, none⟩)) ∧ Own w w' nb most [] 0 0 0 0 P ∧ Keep (fun _ => False) W w' :=
  (new_any most W h1 h2).mono fun e w' ⟨nb, he, hnb, hn, hk⟩ => ⟨nb, he, ⟨.slice none 0 0, ⟨hn.block, World.ownsRow_nil _ _ _ _⟩, Nat.le_trans kw.size hnb, kw.trans hk, fun i hi => ⟨Nat.lt_of_lt_of_le (hP i hi) hk.size, (by have := hP i hi; omega), by simp [Value.ownBlock]⟩⟩, hk⟩
section
variable {w W : World} {nb : Nat} {most : Int} {ps : List Pk} {c0 c1 c2 c3 : Int} {P : Nat → Prop}
theorem Own.send_ok (h : Own w W nb most ps c0 c1 c2 c3 P) (f : Int) (a : Option Addr) (s : ByteArray) (cap : Nat) (hf : f = 1 ∨ f = 2) (hn : s.size ≤ 1048592) (hb : Bs W a s) (hr : (ps.length : Int) < most) (h64 : most ≤ 64) (hc0 : 0 ≤ c0) (hc1 : c0 ≤ 1000000000) :
    Calls Try.prog 11 #[.pointer (some ⟨nb, 0, none⟩), .int .i64 f, .slice a s.size cap] W fun e w' => e = .returned (.int .i64 0) ∧ Own w w' nb most (ps ++ [(f, s)]) (c0 + 1) c1 c2 c3 P ∧ Keep (fun i => ¬ P i) W w' := by
  obtain ⟨v, h1, h2, h3, h4⟩ := h
  exact (Ythcagpgdekhaeaa.send_ok nb w.heap.size most v ps c0 c1 c2 c3 f a s cap W h1 (by omega) hf hn hb hr h64 h3.size hc0 hc1).mono fun e w' ⟨v', he, hp⟩ => ⟨he, Own.post h2 h3 h1 h4 ⟨v', hp⟩⟩
theorem Own.send_full (h : Own w W nb most ps c0 c1 c2 c3 P) (f : Int) (a : Option Addr) (s : ByteArray) (cap : Nat) (hm : 1 ≤ most) (hf : f = 1 ∨ f = 2) (hn : s.size ≤ 1048592) (hb : Bs W a s) (hr : most ≤ ps.length) (h64 : ps.length ≤ 64) :
    Calls Try.prog 11 #[.pointer (some ⟨nb, 0, none⟩), .int .i64 f, .slice a s.size cap] W fun e w' => e = .returned (.int .i64 210) ∧ Own w w' nb most ps c0 c1 c2 c3 P ∧ Keep (fun _ => False) W w' := by
  have h' := h
  obtain ⟨v, h1, h2, h3, h4⟩ := h
  exact (Ythcagpgdekhaeaa.send_full nb w.heap.size most v ps c0 c1 c2 c3 f a s cap W h1 hm hf hn hb hr h64).mono fun e w' ⟨he, hk⟩ => ⟨he, h'.keep0 hk, hk⟩
theorem Own.send_arg (h : Own w W nb most ps c0 c1 c2 c3 P) (f : Int) (a : Option Addr) (n cap : Nat) (hm : 1 ≤ most) (hf : f ≠ 1 ∧ f ≠ 2) :
    Calls Try.prog 11 #[.pointer (some ⟨nb, 0, none⟩), .int .i64 f, .slice a n cap] W fun e w' => e = .returned (.int .i64 2) ∧ w' = W := by
  obtain ⟨v, h1, h2, h3, h4⟩ := h
  exact Ythcagpgdekhaeaa.send_arg nb w.heap.size most v ps c0 c1 c2 c3 f a n cap W h1 hm hf
theorem Own.send_long (h : Own w W nb most ps c0 c1 c2 c3 P) (f : Int) (a : Option Addr) (n cap : Nat) (hm : 1 ≤ most) (hf : f = 1 ∨ f = 2) (hn : 1048592 < n) :
    Calls Try.prog 11 #[.pointer (some ⟨nb, 0, none⟩), .int .i64 f, .slice a n cap] W fun e w' => e = .returned (.int .i64 3) ∧ w' = W := by
  obtain ⟨v, h1, h2, h3, h4⟩ := h
  exact Ythcagpgdekhaeaa.send_long nb w.heap.size most v ps c0 c1 c2 c3 f a n cap W h1 hm hf hn
theorem Own.take_ok (h : Own w W nb most ps c0 c1 c2 c3 P) (i : Nat) (f : Int) (s : ByteArray) (hm : 1 ≤ most) (hi : ps[i]? = some (f, s)) (h64 : ps.length ≤ 64) (hc0 : 0 ≤ c1) (hc1 : c1 ≤ 1000000000) :
    Calls Try.prog 12 #[.pointer (some ⟨nb, 0, none⟩), .int .i64 i] W fun e w' => e = .returned (.tuple #[.agg #[.int .i64 f, .string s], .int .i64 0]) ∧ Own w w' nb most (ps.eraseIdx i) c0 (c1 + 1) c2 c3 P ∧ Keep (fun i => ¬ P i) W w' := by
  obtain ⟨v, h1, h2, h3, h4⟩ := h
  exact (Ythcagpgdekhaeaa.take_ok nb w.heap.size most v ps c0 c1 c2 c3 i f s W h1 hm hi h64 hc0 hc1).mono fun e w' ⟨he, hp⟩ => ⟨he, Own.post h2 h3 h1 h4 hp⟩
theorem Own.take_bad (h : Own w W nb most ps c0 c1 c2 c3 P) (i : Int) (hm : 1 ≤ most) (hi : i < 0 ∨ (ps.length : Int) ≤ i) (h64 : ps.length ≤ 64) :
    Calls Try.prog 12 #[.pointer (some ⟨nb, 0, none⟩), .int .i64 i] W fun e w' => e = .returned (.tuple #[.agg #[.int .i64 0, .string ⟨#[]⟩], .int .i64 211]) ∧ Own w w' nb most ps c0 c1 c2 c3 P ∧ Keep (fun _ => False) W w' := by
  have h' := h
  obtain ⟨v, h1, h2, h3, h4⟩ := h
  exact (Ythcagpgdekhaeaa.take_bad nb w.heap.size most v ps c0 c1 c2 c3 i W h1 hm hi h64).mono fun e w' ⟨he, hk⟩ => ⟨he, h'.keep0 hk, hk⟩
theorem Own.drop_ok (h : Own w W nb most ps c0 c1 c2 c3 P) (i : Nat) (hm : 1 ≤ most) (hi : i < ps.length) (h64 : ps.length ≤ 64) (hc0 : 0 ≤ c2) (hc1 : c2 ≤ 1000000000) :
    Calls Try.prog 21 #[.pointer (some ⟨nb, 0, none⟩), .int .i64 i] W fun e w' => e = .returned (.int .i64 0) ∧ Own w w' nb most (ps.eraseIdx i) c0 c1 (c2 + 1) c3 P ∧ Keep (fun i => ¬ P i) W w' := by
  obtain ⟨v, h1, h2, h3, h4⟩ := h
  exact (Ythcagpgdekhaeaa.drop_ok nb w.heap.size most v ps c0 c1 c2 c3 i (ps[i]).1 (ps[i]).2 W h1 hm (List.getElem?_eq_getElem hi) h64 hc0 hc1).mono fun e w' ⟨he, hp⟩ => ⟨he, Own.post h2 h3 h1 h4 hp⟩
theorem Own.drop_bad (h : Own w W nb most ps c0 c1 c2 c3 P) (i : Int) (hm : 1 ≤ most) (hi : i < 0 ∨ (ps.length : Int) ≤ i) (h64 : ps.length ≤ 64) :
    Calls Try.prog 21 #[.pointer (some ⟨nb, 0, none⟩), .int .i64 i] W fun e w' => e = .returned (.int .i64 211) ∧ Own w w' nb most ps c0 c1 c2 c3 P ∧ Keep (fun _ => False) W w' := by
  have h' := h
  obtain ⟨v, h1, h2, h3, h4⟩ := h
  exact (Ythcagpgdekhaeaa.drop_bad nb w.heap.size most v ps c0 c1 c2 c3 i W h1 hm hi h64).mono fun e w' ⟨he, hk⟩ => ⟨he, h'.keep0 hk, hk⟩
theorem Own.twice_ok (h : Own w W nb most ps c0 c1 c2 c3 P) (i : Nat) (p : Pk) (hi : ps[i]? = some p) (hr : (ps.length : Int) < most) (h64 : most ≤ 64) (hc0 : 0 ≤ c3) (hc1 : c3 ≤ 1000000000) :
    Calls Try.prog 14 #[.pointer (some ⟨nb, 0, none⟩), .int .i64 i] W fun e w' => e = .returned (.int .i64 0) ∧ Own w w' nb most (ps ++ [p]) c0 c1 c2 (c3 + 1) P ∧ Keep (fun i => ¬ P i) W w' := by
  obtain ⟨v, h1, h2, h3, h4⟩ := h
  exact (Ythcagpgdekhaeaa.twice_ok nb w.heap.size most v ps c0 c1 c2 c3 i p.1 p.2 W h1 (by omega) hi hr h64 h3.size hc0 hc1).mono fun e w' ⟨he, hp⟩ => ⟨he, Own.post h2 h3 h1 h4 hp⟩
theorem Own.twice_full (h : Own w W nb most ps c0 c1 c2 c3 P) (i : Nat) (hm : 1 ≤ most) (hi : i < ps.length) (hr : most ≤ ps.length) (h64 : ps.length ≤ 64) :
    Calls Try.prog 14 #[.pointer (some ⟨nb, 0, none⟩), .int .i64 i] W fun e w' => e = .returned (.int .i64 210) ∧ Own w w' nb most ps c0 c1 c2 c3 P ∧ Keep (fun i => ¬ P i) W w' := by
  obtain ⟨v, h1, h2, h3, h4⟩ := h
  exact (Ythcagpgdekhaeaa.twice_full nb w.heap.size most v ps c0 c1 c2 c3 i (ps[i]).1 (ps[i]).2 W h1 hm (List.getElem?_eq_getElem hi) hr h64).mono fun e w' ⟨he, hp⟩ => ⟨he, Own.post h2 h3 h1 h4 hp⟩
theorem Own.twice_bad (h : Own w W nb most ps c0 c1 c2 c3 P) (i : Int) (hm : 1 ≤ most) (hi : i < 0 ∨ (ps.length : Int) ≤ i) (h64 : ps.length ≤ 64) :
    Calls Try.prog 14 #[.pointer (some ⟨nb, 0, none⟩), .int .i64 i] W fun e w' => e = .returned (.int .i64 211) ∧ Own w w' nb most ps c0 c1 c2 c3 P ∧ Keep (fun _ => False) W w' := by
  have h' := h
  obtain ⟨v, h1, h2, h3, h4⟩ := h
  exact (Ythcagpgdekhaeaa.twice_bad nb w.heap.size most v ps c0 c1 c2 c3 i W h1 hm hi h64).mono fun e w' ⟨he, hk⟩ => ⟨he, h'.keep0 hk, hk⟩
theorem Own.turn_bad (h : Own w W nb most ps c0 c1 c2 c3 P) (i k b : Int) (hm : 1 ≤ most) (hi : i < 0 ∨ (ps.length : Int) ≤ i) (h64 : ps.length ≤ 64) :
    Calls Try.prog 15 #[.pointer (some ⟨nb, 0, none⟩), .int .i64 i, .int .i64 k, .int .u8 b] W fun e w' => e = .returned (.int .i64 211) ∧ Own w w' nb most ps c0 c1 c2 c3 P ∧ Keep (fun _ => False) W w' := by
  have h' := h
  obtain ⟨v, h1, h2, h3, h4⟩ := h
  exact (Ythcagpgdekhaeaa.turn_bad nb w.heap.size most v ps c0 c1 c2 c3 i k b W h1 hm hi h64).mono fun e w' ⟨he, hk⟩ => ⟨he, h'.keep0 hk, hk⟩
theorem Own.look_ok (h : Own w W nb most ps c0 c1 c2 c3 P) (i : Nat) (f : Int) (s : ByteArray) (hm : 1 ≤ most) (hi : ps[i]? = some (f, s)) :
    Calls Try.prog 16 #[.pointer (some ⟨nb, 0, none⟩), .int .i64 i] W fun e w' => e = .returned (.tuple #[.agg #[.int .i64 f, .string s], .int .i64 0]) ∧ Own w w' nb most ps c0 c1 c2 c3 P ∧ Keep (fun _ => False) W w' := by
  have h' := h
  obtain ⟨v, h1, h2, h3, h4⟩ := h
  exact (look_at nb w.heap.size most v ps c0 c1 c2 c3 i f s W h1 hm hi).mono fun e w' ⟨he, hk⟩ => ⟨he, h'.keep0 hk, hk⟩
theorem Own.look_bad (h : Own w W nb most ps c0 c1 c2 c3 P) (i : Int) (hm : 1 ≤ most) (hi : i < 0 ∨ (ps.length : Int) ≤ i) (h64 : ps.length ≤ 64) :
    Calls Try.prog 16 #[.pointer (some ⟨nb, 0, none⟩), .int .i64 i] W fun e w' => e = .returned (.tuple #[.agg #[.int .i64 0, .string ⟨#[]⟩], .int .i64 211]) ∧ Own w w' nb most ps c0 c1 c2 c3 P ∧ Keep (fun _ => False) W w' := by
  have h' := h
  obtain ⟨v, h1, h2, h3, h4⟩ := h
  exact (Ythcagpgdekhaeaa.look_bad nb w.heap.size most v ps c0 c1 c2 c3 i W h1 hm hi h64).mono fun e w' ⟨he, hk⟩ => ⟨he, h'.keep0 hk, hk⟩
theorem Own.len (h : Own w W nb most ps c0 c1 c2 c3 P) (hm : 1 ≤ most) : Calls Try.prog 13 #[.pointer (some ⟨nb, 0, none⟩)] W fun e w' => e = .returned (.int .i64 ps.length) ∧ w' = W := by
  obtain ⟨v, h1, h2, h3, h4⟩ := h
  obtain ⟨a, cap, rfl, _⟩ := h1.slice
  exact len_at nb most a ps.length cap W h1.cells.1 h1.cells.2.1 hm
theorem Own.counts (h : Own w W nb most ps c0 c1 c2 c3 P) (hm : 1 ≤ most) : Calls Try.prog 20 #[.pointer (some ⟨nb, 0, none⟩)] W fun e w' => e = .returned (.agg #[.int .i64 c0, .int .i64 c1, .int .i64 c2, .int .i64 c3]) ∧ Own w w' nb most ps c0 c1 c2 c3 P ∧ Keep (fun _ => False) W w' := by
  have h' := h
  obtain ⟨v, h1, h2, h3, h4⟩ := h
  exact (counts_at nb w.heap.size most v ps c0 c1 c2 c3 W h1 hm).mono fun e w' ⟨he, hk⟩ => ⟨he, h'.keep0 hk, hk⟩
end
end Go.Proofs.Ythcagpgdekhaeaa
