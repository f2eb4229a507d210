/- Both nets in step: each method answers alike. -/
import Derived.Test.YthcagpgdekhaeaaR7
import Derived.Test.YthcagpgdekhaeaaN14
namespace Go.Proofs.Ythcagpgdekhaeaa
open Go.RowKit
/-- What a net holds and counts. -/
structure St where
  ps : List Pk
  c0 : Int
  c1 : Int
  c2 : Int
  c3 : Int
def OwnS (w W : World) (nb : Nat) (most : Int) (st : St) (P : Nat → Prop) : Prop := Own w W nb most st.ps st.c0 st.c1 st.c2 st.c3 P
def RefS (w : World) (rb base : Nat) (most : Int) (v : Value) (st : St) : Prop := RefAt w rb base most v st.ps st.c0 st.c1 st.c2 st.c3
def RefPostS (rb base : Nat) (most : Int) (v : Value) (st : St) (w w' : World) : Prop := RefPost rb base most v st.ps st.c0 st.c1 st.c2 st.c3 w w'
structure Fine (most : Int) (st : St) (n : Nat) : Prop where
  len : (st.ps.length : Int) ≤ most
  cs : (0 ≤ st.c0 ∧ st.c0 ≤ n) ∧ (0 ≤ st.c1 ∧ st.c1 ≤ n) ∧ (0 ≤ st.c2 ∧ st.c2 ≤ n) ∧ (0 ≤ st.c3 ∧ st.c3 ≤ n)
  bal : st.c0 + st.c3 = st.c1 + st.c2 + st.ps.length
structure Goes (most : Int) (st st1 : St) : Prop where
  len : (st1.ps.length : Int) ≤ most
  cs : (st.c0 ≤ st1.c0 ∧ st1.c0 ≤ st.c0 + 1) ∧ (st.c1 ≤ st1.c1 ∧ st1.c1 ≤ st.c1 + 1) ∧ (st.c2 ≤ st1.c2 ∧ st1.c2 ≤ st.c2 + 1) ∧ (st.c3 ≤ st1.c3 ∧ st1.c3 ≤ st.c3 + 1)
  bal : st1.c0 + st1.c3 - st1.c1 - st1.c2 - st1.ps.length = st.c0 + st.c3 - st.c1 - st.c2 - st.ps.length
theorem Goes.refl {most : Int} {st : St} (h : (st.ps.length : Int) ≤ most) : Goes most st st := ⟨h, by omega, rfl⟩
theorem Goes.idle {most : Int} {st st1 : St} (h : Goes most st st1) (h0 : st1.c0 = st.c0) (h1 : st1.c1 = st.c1) (h2 : st1.c2 = st.c2) (h3 : st1.c3 = st.c3) : st1.ps.length = st.ps.length := by
  have := h.bal
  omega
theorem Fine.goes {most : Int} {st st1 : St} {n : Nat} (h : Fine most st n) (g : Goes most st st1) : Fine most st1 (n + 1) := by
  have h1 := h.cs
  have h2 := h.bal
  have g1 := g.cs
  have g2 := g.bal
  exact ⟨g.len, by omega, by omega⟩
theorem RefPost.same {rb base : Nat} {most : Int} {v : Value} {ps : List Pk} {c0 c1 c2 c3 : Int} {w w' : World} (h : RefAt w rb base most v ps c0 c1 c2 c3) (k : Keep (fun _ => False) w w') : RefPost rb base most v ps c0 c1 c2 c3 w w' :=
  ⟨v, h.keep0 k, fun _ hg => .inl hg, k.mono (fun _ h => h.elim)⟩
theorem place (ps : List Pk) (i : Int) : (i < 0 ∨ (ps.length : Int) ≤ i) ∨ ∃ (j : Nat) (f : Int) (s : ByteArray), i = j ∧ ps[j]? = some (f, s) := by
  by_cases h : i < 0 ∨ (ps.length : Int) ≤ i
  · exact .inl h
  · obtain ⟨j, rfl⟩ := Int.eq_ofNat_of_zero_le (by omega : 0 ≤ i)
    have hj : j < ps.length := by omega
    exact .inr ⟨j, ps[j].1, ps[j].2, rfl, by rw [List.getElem?_eq_getElem hj]⟩
theorem keepN {P : Nat → Prop} {w w' : World} (k : Keep (fun _ => False) w w') : Keep (fun i => ¬ P i) w w' := k.mono (fun _ h => h.elim)
theorem op_send (most : Int) (st : St) (n : Nat) (hm : 1 ≤ most) (h64 : most ≤ 64) (hf : Fine most st n) (hn : n ≤ 1000000) (f : Int) (a : Option Addr) (s : ByteArray) (cap : Nat) : ∃ (v : Int) (st1 : St), Goes most st st1 ∧
    (∀ (a' : Option Addr) (cap' : Nat), (∀ (w W : World) (nb : Nat) (P : Nat → Prop), OwnS w W nb most st P → Bs W a' s → Calls Try.prog 11 #[.pointer (some ⟨nb, 0, none⟩), .int .i64 f, .slice a' s.size cap'] W fun e w' => e = .returned (.int .i64 v) ∧ OwnS w w' nb most st1 P ∧ Keep (fun i => ¬ P i) W w')) ∧
    (∀ (W : World) (rb base : Nat) (vr : Value), RefS W rb base most vr st → base ≤ W.heap.size → Bs W a s → Calls Try.prog 30 #[.pointer (some ⟨rb, 0, none⟩), .int .i64 f, .slice a s.size cap] W fun e w' => e = .returned (.int .i64 v) ∧ RefPostS rb base most vr st1 W w') := by
  have g0 := hf.len
  obtain ⟨⟨a0, b0⟩, ⟨a1, b1⟩, ⟨a2, b2⟩, ⟨a3, b3⟩⟩ := hf.cs
  by_cases hF : f = 1 ∨ f = 2
  · by_cases hL : s.size ≤ 1048592
    · by_cases hR : (st.ps.length : Int) < most
      · refine ⟨0, ⟨st.ps ++ [(f, s)], st.c0 + 1, st.c1, st.c2, st.c3⟩, ⟨by simp; omega, by dsimp only; omega, by simp; omega⟩, fun a' cap' w W nb P h hb => ?_, fun W rb base vr h hbase hb => ?_⟩
        · exact h.send_ok f a' s cap' hF hL hb hR h64 a0 (by omega)
        · exact ref_send_ok rb base most vr st.ps st.c0 st.c1 st.c2 st.c3 f a s cap W h hF hL hb hR h64 hbase a0 (by omega)
      · refine ⟨210, st, Goes.refl g0, fun a' cap' w W nb P h hb => ?_, fun W rb base vr h hbase hb => ?_⟩
        · exact (h.send_full f a' s cap' hm hF hL hb (by omega) (by omega)).mono fun e w' ⟨h1, h2, h3⟩ => ⟨h1, h2, keepN h3⟩
        · exact (ref_send_full rb base most vr st.ps st.c0 st.c1 st.c2 st.c3 f a s.size cap W h hF hL (by omega)).mono fun e w' ⟨h1, h2⟩ => ⟨h1, RefPost.same h h2⟩
    · refine ⟨3, st, Goes.refl g0, fun a' cap' w W nb P h hb => ?_, fun W rb base vr h hbase hb => ?_⟩
      · exact (h.send_long f a' s.size cap' hm hF (by omega)).mono fun e w' ⟨h1, h2⟩ => ⟨h1, by subst h2; exact h, by subst h2; exact Keep.refl _ _⟩
      · exact (ref_send_long rb f a s.size cap W hF (by omega)).mono fun e w' ⟨h1, h2⟩ => ⟨h1, by subst h2; exact RefPost.same h (Keep.refl _ _)⟩
  · refine ⟨2, st, Goes.refl g0, fun a' cap' w W nb P h hb => ?_, fun W rb base vr h hbase hb => ?_⟩
    · exact (h.send_arg f a' s.size cap' hm (by omega)).mono fun e w' ⟨h1, h2⟩ => ⟨h1, by subst h2; exact h, by subst h2; exact Keep.refl _ _⟩
    · exact (ref_send_arg rb f a s.size cap W (by omega)).mono fun e w' ⟨h1, h2⟩ => ⟨h1, by subst h2; exact RefPost.same h (Keep.refl _ _)⟩
theorem op_take (most : Int) (st : St) (n : Nat) (hm : 1 ≤ most) (h64 : most ≤ 64) (hf : Fine most st n) (hn : n ≤ 1000000) (i : Int) : ∃ (f : Int) (s : ByteArray) (v : Int) (st1 : St), Goes most st st1 ∧ (∀ (w W : World) (nb : Nat) (P : Nat → Prop), OwnS w W nb most st P → Calls Try.prog 12 #[.pointer (some ⟨nb, 0, none⟩), .int .i64 i] W fun e w' => e = .returned (.tuple #[.agg #[.int .i64 f, .string s], .int .i64 v]) ∧ OwnS w w' nb most st1 P ∧ Keep (fun i => ¬ P i) W w') ∧
    (∀ (W : World) (rb base : Nat) (vr : Value), RefS W rb base most vr st → base ≤ W.heap.size → Calls Try.prog 31 #[.pointer (some ⟨rb, 0, none⟩), .int .i64 i] W fun e w' => e = .returned (.tuple #[.agg #[.int .i64 f, .string s], .int .i64 v]) ∧ RefPostS rb base most vr st1 W w') := by
  have g0 := hf.len
  obtain ⟨⟨a0, b0⟩, ⟨a1, b1⟩, ⟨a2, b2⟩, ⟨a3, b3⟩⟩ := hf.cs
  rcases place st.ps i with hi | ⟨j, f, s, rfl, hj⟩
  · refine ⟨0, ⟨#[]⟩, 211, st, Goes.refl g0, fun w W nb P h => ?_, fun W rb base vr h hbase => ?_⟩
    · exact (h.take_bad i hm hi (by omega)).mono fun e w' ⟨h1, h2, h3⟩ => ⟨h1, h2, keepN h3⟩
    · exact (ref_take_bad rb base most vr st.ps st.c0 st.c1 st.c2 st.c3 i W h hi).mono fun e w' ⟨h1, h2⟩ => ⟨h1, RefPost.same h h2⟩
  · have hl : j < st.ps.length := (List.getElem?_eq_some_iff.1 hj).1
    refine ⟨f, s, 0, ⟨st.ps.eraseIdx j, st.c0, st.c1 + 1, st.c2, st.c3⟩, ⟨by simp [List.length_eraseIdx, hl]; omega, by dsimp only; omega, by simp [List.length_eraseIdx, hl]; omega⟩, fun w W nb P h => ?_, fun W rb base vr h hbase => ?_⟩
    · exact h.take_ok j f s hm hj (by omega) a1 (by omega)
    · exact ref_take_ok rb base most vr st.ps st.c0 st.c1 st.c2 st.c3 j f s W h hj (by omega) hbase a1 (by omega)
theorem op_drop (most : Int) (st : St) (n : Nat) (hm : 1 ≤ most) (h64 : most ≤ 64) (hf : Fine most st n) (hn : n ≤ 1000000) (i : Int) : ∃ (v : Int) (st1 : St), Goes most st st1 ∧ (∀ (w W : World) (nb : Nat) (P : Nat → Prop), OwnS w W nb most st P → Calls Try.prog 21 #[.pointer (some ⟨nb, 0, none⟩), .int .i64 i] W fun e w' => e = .returned (.int .i64 v) ∧ OwnS w w' nb most st1 P ∧ Keep (fun i => ¬ P i) W w') ∧
    (∀ (W : World) (rb base : Nat) (vr : Value), RefS W rb base most vr st → base ≤ W.heap.size → Calls Try.prog 32 #[.pointer (some ⟨rb, 0, none⟩), .int .i64 i] W fun e w' => e = .returned (.int .i64 v) ∧ RefPostS rb base most vr st1 W w') := by
  have g0 := hf.len
  obtain ⟨⟨a0, b0⟩, ⟨a1, b1⟩, ⟨a2, b2⟩, ⟨a3, b3⟩⟩ := hf.cs
  rcases place st.ps i with hi | ⟨j, f, s, rfl, hj⟩
  · refine ⟨211, st, Goes.refl g0, fun w W nb P h => ?_, fun W rb base vr h hbase => ?_⟩
    · exact (h.drop_bad i hm hi (by omega)).mono fun e w' ⟨h1, h2, h3⟩ => ⟨h1, h2, keepN h3⟩
    · exact (ref_drop_bad rb base most vr st.ps st.c0 st.c1 st.c2 st.c3 i W h hi).mono fun e w' ⟨h1, h2⟩ => ⟨h1, RefPost.same h h2⟩
  · have hl : j < st.ps.length := (List.getElem?_eq_some_iff.1 hj).1
    refine ⟨0, ⟨st.ps.eraseIdx j, st.c0, st.c1, st.c2 + 1, st.c3⟩, ⟨by simp [List.length_eraseIdx, hl]; omega, by dsimp only; omega, by simp [List.length_eraseIdx, hl]; omega⟩, fun w W nb P h => ?_, fun W rb base vr h hbase => ?_⟩
    · exact h.drop_ok j hm hl (by omega) a2 (by omega)
    · exact ref_drop_ok rb base most vr st.ps st.c0 st.c1 st.c2 st.c3 j f s W h hj (by omega) hbase a2 (by omega)
theorem op_twice (most : Int) (st : St) (n : Nat) (hm : 1 ≤ most) (h64 : most ≤ 64) (hf : Fine most st n) (hn : n ≤ 1000000) (i : Int) : ∃ (v : Int) (st1 : St), Goes most st st1 ∧ (∀ (w W : World) (nb : Nat) (P : Nat → Prop), OwnS w W nb most st P → Calls Try.prog 14 #[.pointer (some ⟨nb, 0, none⟩), .int .i64 i] W fun e w' => e = .returned (.int .i64 v) ∧ OwnS w w' nb most st1 P ∧ Keep (fun i => ¬ P i) W w') ∧
    (∀ (W : World) (rb base : Nat) (vr : Value), RefS W rb base most vr st → base ≤ W.heap.size → Calls Try.prog 33 #[.pointer (some ⟨rb, 0, none⟩), .int .i64 i] W fun e w' => e = .returned (.int .i64 v) ∧ RefPostS rb base most vr st1 W w') := by
  have g0 := hf.len
  obtain ⟨⟨a0, b0⟩, ⟨a1, b1⟩, ⟨a2, b2⟩, ⟨a3, b3⟩⟩ := hf.cs
  rcases place st.ps i with hi | ⟨j, f, s, rfl, hj⟩
  · refine ⟨211, st, Goes.refl g0, fun w W nb P h => ?_, fun W rb base vr h hbase => ?_⟩
    · exact (h.twice_bad i hm hi (by omega)).mono fun e w' ⟨h1, h2, h3⟩ => ⟨h1, h2, keepN h3⟩
    · exact (ref_twice_bad rb base most vr st.ps st.c0 st.c1 st.c2 st.c3 i W h hi).mono fun e w' ⟨h1, h2⟩ => ⟨h1, RefPost.same h h2⟩
  · have hl : j < st.ps.length := (List.getElem?_eq_some_iff.1 hj).1
    by_cases hR : (st.ps.length : Int) < most
    · refine ⟨0, ⟨st.ps ++ [(f, s)], st.c0, st.c1, st.c2, st.c3 + 1⟩, ⟨by simp; omega, by dsimp only; omega, by simp; omega⟩, fun w W nb P h => ?_, fun W rb base vr h hbase => ?_⟩
      · exact h.twice_ok j (f, s) hj hR h64 a3 (by omega)
      · exact ref_twice_ok rb base most vr st.ps st.c0 st.c1 st.c2 st.c3 j f s W h hj hR h64 hbase a3 (by omega)
    · refine ⟨210, st, Goes.refl g0, fun w W nb P h => ?_, fun W rb base vr h hbase => ?_⟩
      · exact h.twice_full j hm hl (by omega) (by omega)
      · exact (ref_twice_full rb base most vr st.ps st.c0 st.c1 st.c2 st.c3 j f s W h hj (by omega)).mono fun e w' ⟨h1, h2⟩ => ⟨h1, RefPost.same h h2⟩
theorem op_turn (most : Int) (st : St) (n : Nat) (hm : 1 ≤ most) (h64 : most ≤ 64) (hf : Fine most st n) (i k : Int) (b : UInt8) : ∃ (v : Int) (st1 : St), Goes most st st1 ∧ (∀ (w W : World) (nb : Nat) (P : Nat → Prop), OwnS w W nb most st P → Calls Try.prog 15 #[.pointer (some ⟨nb, 0, none⟩), .int .i64 i, .int .i64 k, .int .u8 (b.toNat : Int)] W fun e w' => e = .returned (.int .i64 v) ∧ OwnS w w' nb most st1 P ∧ Keep (fun i => ¬ P i) W w') ∧
    (∀ (W : World) (rb base : Nat) (vr : Value), RefS W rb base most vr st → base ≤ W.heap.size → Calls Try.prog 34 #[.pointer (some ⟨rb, 0, none⟩), .int .i64 i, .int .i64 k, .int .u8 (b.toNat : Int)] W fun e w' => e = .returned (.int .i64 v) ∧ RefPostS rb base most vr st1 W w') := by
  have g0 := hf.len
  obtain ⟨⟨a0, b0⟩, ⟨a1, b1⟩, ⟨a2, b2⟩, ⟨a3, b3⟩⟩ := hf.cs
  rcases place st.ps i with hi | ⟨j, f, s, rfl, hj⟩
  · refine ⟨211, st, Goes.refl g0, fun w W nb P h => ?_, fun W rb base vr h hbase => ?_⟩
    · exact (h.turn_bad i k _ hm hi (by omega)).mono fun e w' ⟨h1, h2, h3⟩ => ⟨h1, h2, keepN h3⟩
    · exact (ref_turn_bad rb base most vr st.ps st.c0 st.c1 st.c2 st.c3 i k _ W h hi).mono fun e w' ⟨h1, h2⟩ => ⟨h1, RefPost.same h h2⟩
  · by_cases hk : k < 0 ∨ (s.size : Int) ≤ k
    · refine ⟨2, st, Goes.refl g0, fun w W nb P h => ?_, fun W rb base vr h hbase => ?_⟩
      · exact h.turn_arg j k f s b hm hj hk
      · exact (ref_turn_arg rb base most vr st.ps st.c0 st.c1 st.c2 st.c3 j f s k _ W h hj hk).mono fun e w' ⟨h1, h2⟩ => ⟨h1, RefPost.same h h2⟩
    · obtain ⟨m, rfl⟩ := Int.eq_ofNat_of_zero_le (by omega : 0 ≤ k)
      refine ⟨0, ⟨st.ps.set j (f, turned s m b), st.c0, st.c1, st.c2, st.c3⟩, ⟨by simpa using g0, by dsimp only; omega, by simp⟩, fun w W nb P h => ?_, fun W rb base vr h hbase => ?_⟩
      · exact h.turn_ok j m f s b hm hj (by omega)
      · exact ref_turn_ok rb base most vr st.ps st.c0 st.c1 st.c2 st.c3 j m f s b W h hj (by omega) (by omega) hbase
theorem op_look (most : Int) (st : St) (n : Nat) (hm : 1 ≤ most) (h64 : most ≤ 64) (hf : Fine most st n) (i : Int) : ∃ (f : Int) (s : ByteArray) (v : Int), (∀ (w W : World) (nb : Nat) (P : Nat → Prop), OwnS w W nb most st P → Calls Try.prog 16 #[.pointer (some ⟨nb, 0, none⟩), .int .i64 i] W fun e w' => e = .returned (.tuple #[.agg #[.int .i64 f, .string s], .int .i64 v]) ∧ OwnS w w' nb most st P ∧ Keep (fun i => ¬ P i) W w') ∧
    (∀ (W : World) (rb base : Nat) (vr : Value), RefS W rb base most vr st → base ≤ W.heap.size → Calls Try.prog 35 #[.pointer (some ⟨rb, 0, none⟩), .int .i64 i] W fun e w' => e = .returned (.tuple #[.agg #[.int .i64 f, .string s], .int .i64 v]) ∧ RefPostS rb base most vr st W w') := by
  have g0 := hf.len
  rcases place st.ps i with hi | ⟨j, f, s, rfl, hj⟩
  · refine ⟨0, ⟨#[]⟩, 211, fun w W nb P h => ?_, fun W rb base vr h hbase => ?_⟩
    · exact (h.look_bad i hm hi (by omega)).mono fun e w' ⟨h1, h2, h3⟩ => ⟨h1, h2, keepN h3⟩
    · exact (ref_look_bad rb base most vr st.ps st.c0 st.c1 st.c2 st.c3 i W h hi).mono fun e w' ⟨h1, h2⟩ => ⟨h1, RefPost.same h h2⟩
  · refine ⟨f, s, 0, fun w W nb P h => ?_, fun W rb base vr h hbase => ?_⟩
    · exact (h.look_ok j f s hm hj).mono fun e w' ⟨h1, h2, h3⟩ => ⟨h1, h2, keepN h3⟩
    · exact (ref_look_ok rb base most vr st.ps st.c0 st.c1 st.c2 st.c3 j f s W h hj).mono fun e w' ⟨h1, h2⟩ => ⟨h1, RefPost.same h h2⟩
end Go.Proofs.Ythcagpgdekhaeaa
