/- The walk of WindowAgain: it returns true and turns nothing that was there. -/
import Derived.Test.YtffkilfcphbbdaaW4
namespace Go.Proofs.Ytffkilfcphbbdaa
open Go.RowKit
/-- 'uint(a) % m' is a number below m. -/
theorem umod (a m : Int) (hm : 0 < m) : ∃ q, (IntKind.u64.wrap a).tmod m = q ∧ 0 ≤ q ∧ q < m := by
  have h : 0 ≤ IntKind.u64.wrap a := by unfold IntKind.wrap; simp [IntKind.signed, IntKind.bits]; omega
  exact ⟨_, rfl, Int.tmod_nonneg _ h, Int.tmod_lt_of_pos _ hm⟩
theorem sliceOf_own {w : World} {base : Nat} {e : TypeId} {a : Option Addr} {n cap : Nat} {l : List Int} (h : w.ownsRow base e 1 (.slice a n cap) n (l.map (Value.int .i64))) : SliceOf w a n l := by
  refine ⟨by have := h.1; simpa using this, fun i hi => ?_⟩
  obtain ⟨g, rfl, _, hc⟩ := own_int h i hi
  exact ⟨_, rfl, rfl, by rw [add_none]; simpa using hc⟩
theorem ints_same (w : World) (a1 a2 : Option Addr) (n1 c1 n2 c2 : Nat) (l : List Int) (h1 : SliceOf w a1 n1 l) (h2 : SliceOf w a2 n2 l) (hm1 : n1 ≤ maxLen) (hm2 : n2 ≤ maxLen) :
    Calls Try.prog 10 #[.slice a1 n1 c1, .slice a2 n2 c2] w fun e w' => e = .returned (.bool true) ∧ ∃ k, w' = w.drewN k :=
  (ints_ok w a1 a2 n1 c1 n2 c2 l l h1 h2 hm1 hm2).mono fun _ _ ⟨h, k⟩ => ⟨by simpa using h, k⟩
/-- The three calls of WindowAgain, as plain numbers. -/
theorem again_plain (k t n tm q : Int) (hk : 1 ≤ k) (hk2 : k ≤ 16) (ht : 1 ≤ t) (ht2 : t ≤ 64) (hn : 0 ≤ n) (hn2 : n < 1000) (hm : 0 ≤ tm) (hm2 : tm < 1073741824) (_ : 0 ≤ q) (hq2 : q < t) :
    ∃ (x1 x2 : Win) (m : Nat) (l : List Int), (m : Int) = min k n ∧ x1.Ok ∧ (Win.mk k t 0 0 0).Ok ∧
      (Win.mk k t 0 0 0).next 0 n tm = x1 ∧ (Win.mk k t 0 0 0).few 0 n tm = m ∧ (Win.mk k t 0 0 0).out 0 n tm = l ∧
      x1.next 0 n (tm + q) = x1 ∧ x1.few 0 n (tm + q) = 0 ∧ x1.out 0 n (tm + q) = [] ∧
      x1.next 0 n (tm + t) = x2 ∧ x1.few 0 n (tm + t) = m ∧ x1.out 0 n (tm + t) = l := by
  by_cases h0 : n = 0
  · subst h0
    have e1 : ∀ a, (Win.mk k t 0 0 0).sent1 0 a = 0 := by intro a; simp [Win.sent1, Win.ack1]
    have e2 : ∀ a, (Win.mk k t 0 0 0).few 0 0 a = 0 := by intro a; unfold Win.few; rw [e1]; simp [Win.ack1]; omega
    have e3 : ∀ a, (Win.mk k t 0 0 0).next 0 0 a = Win.mk k t 0 0 0 := by intro a; unfold Win.next; rw [if_pos (e2 a), e1]; simp [Win.ack1]
    have e4 : ∀ a, (Win.mk k t 0 0 0).out 0 0 a = [] := by intro a; unfold Win.out; rw [e2]; rfl
    have hok : (Win.mk k t 0 0 0).Ok := by constructor <;> dsimp only <;> omega
    exact ⟨_, _, 0, [], by omega, hok, hok, e3 _, e2 _, e4 _, e3 _, e2 _, e4 _, e3 _, e2 _, e4 _⟩
  · obtain ⟨m, hmm⟩ : ∃ m : Nat, (m : Int) = min k n := ⟨(min k n).toNat, by omega⟩
    have hok0 : (Win.mk k t 0 0 0).Ok := by constructor <;> dsimp only <;> omega
    have hok : (Win.mk k t 0 m tm).Ok := by constructor <;> dsimp only <;> omega
    have s0 : (Win.mk k t 0 0 0).sent1 0 tm = 0 := by simp [Win.sent1, Win.ack1]
    have f0 : (Win.mk k t 0 0 0).few 0 n tm = m := by unfold Win.few; rw [s0]; simp [Win.ack1]; omega
    have s1 : (Win.mk k t 0 m tm).sent1 0 (tm + q) = m := by unfold Win.sent1; rw [if_neg]; simp [Win.ack1]; omega
    have f1 : (Win.mk k t 0 m tm).few 0 n (tm + q) = 0 := by unfold Win.few; rw [s1]; simp [Win.ack1]; omega
    have s2 : (Win.mk k t 0 m tm).sent1 0 (tm + t) = 0 := by unfold Win.sent1; rw [if_pos (Or.inr (by dsimp only; omega))]; simp [Win.ack1]
    have f2 : (Win.mk k t 0 m tm).few 0 n (tm + t) = m := by unfold Win.few; rw [s2]; simp [Win.ack1]; omega
    refine ⟨Win.mk k t 0 m tm, _, m, upTo 0 m, hmm, hok, hok0, ?_, f0, ?_, ?_, f1, ?_, rfl, f2, ?_⟩
    · unfold Win.next; rw [f0, if_neg (by omega), s0]; simp [Win.ack1]
    · unfold Win.out; rw [f0, s0]
    · unfold Win.next; rw [f1, if_pos rfl, s1]; simp [Win.ack1]
    · unfold Win.out; rw [f1]; rfl
    · unfold Win.out; rw [f2, s2]
set_option maxRecDepth 100000 in
set_option maxHeartbeats 1000000 in
theorem again_walk (z0 z1 z2 z3 z4 : Int) (w : World) :
    Calls Try.prog 3 #[.int .i64 z0, .int .i64 z1, .int .i64 z2, .int .i64 z3, .int .i64 z4] w fun e w' => e = .returned (.bool true) ∧ Below w.heap.size w w' := by
  obtain ⟨q0, e0, p0, r0⟩ := umod z0 16 (by omega)
  obtain ⟨q1, e1, p1, r1⟩ := umod z1 64 (by omega)
  obtain ⟨q2, e2, p2, r2⟩ := umod z2 1000 (by omega)
  obtain ⟨q3, e3, p3, r3⟩ := umod z3 1073741824 (by omega)
  obtain ⟨q4, e4, p4, r4⟩ := umod z4 (1 + q1) (by omega)
  obtain ⟨x1, x2, m, l, hm, ok1, ok0, n1, f1, l1, n2, f2, l2, n3, f3, l3⟩ := again_plain (1 + q0) (1 + q1) q2 q3 q4 (by omega) (by omega) (by omega) (by omega) p2 r2 p3 r3 p4 r4
  have HP := Lib.hid (And.intro ok1 (And.intro ok0 (And.intro n1 (And.intro f1 (And.intro l1 (And.intro n2 (And.intro f2 (And.intro l2 (And.intro n3 (And.intro f3 l3))))))))))
  clear ok1 ok0 n1 f1 l1 n2 f2 l2 n3 f3 l3
  have HM := Lib.hid hm
  have hb : Hid ((q2 < 1 + q0 ∧ ((m : Int) != q2) = false) ∨ (1 + q0 ≤ q2 ∧ ((m : Int) != 1 + q0) = false)) := by
    by_cases h : q2 < 1 + q0
    · exact .inl ⟨h, by simp; omega⟩
    · exact .inr ⟨by omega, by simp; omega⟩
  have hmb : (m : Int) ≤ 16 := by omega
  clear hm
  go_enter Try.func3, Try.ntmps3
  go_wp2_with fail
  refine (new_ok _ _ _ (by omega)).mono ?_
  rintro e w' ⟨rfl, rfl⟩
  obtain ⟨b, hb'⟩ : ∃ b, b = w.heap.size := ⟨_, rfl⟩
  obtain ⟨wa, hwa⟩ : ∃ wa, wa = w.alloc (.cells #[.int .i64 (1 + q0), .int .i64 (1 + q1), .int .i64 0, .int .i64 0, .int .i64 0] 48) := ⟨_, rfl⟩
  have i0 : IsWin wa b 48 ⟨1 + q0, 1 + q1, 0, 0, 0⟩ := by rw [hwa, hb']; exact heap_alloc_new w _
  have k0 : Keep (fun _ => False) w wa := by rw [hwa]; exact Keep.alloc _ _ _
  rw [← hwa, ← hb']
  have I0 := Lib.hid i0
  have K0 := Lib.hid k0
  have HB := Lib.hid hb'
  clear hb' i0 k0 hwa
  go_wp2_with fail
  refine (next_to _ _ _ HP.out.2.1 I0.out 0 q2 q3 (by simp [Win.good]; omega) x1 m l HP.out.2.2.1 HP.out.2.2.2.1 HP.out.2.2.2.2.1).mono ?_
  rintro e w1 ⟨a1, p1, rfl, i1, o1, k1⟩
  have I1 := Lib.hid i1
  have K1 := Lib.hid k1
  have O1 := Lib.hid o1
  clear i1 o1 k1
  rcases hb.out with ⟨hb1, hb2⟩ | ⟨hb1, hb2⟩
  all_goals
    go_wp2_with fail
    refine (next_to _ _ _ HP.out.1 I1.out 0 q2 (q3 + q4) (by simp [Win.good]; omega) x1 0 [] HP.out.2.2.2.2.2.1 HP.out.2.2.2.2.2.2.1 HP.out.2.2.2.2.2.2.2.1).mono ?_
    rintro e w2 ⟨a2, p2, rfl, i2, o2, k2⟩
    have I2 := Lib.hid i2
    have K2 := Lib.hid k2
    have O2 := Lib.hid o2
    clear i2 o2 k2
    go_wp2_with fail
    refine (next_to _ _ _ HP.out.1 I2.out 0 q2 (q3 + (1 + q1)) (by simp [Win.good]; omega) x2 m l HP.out.2.2.2.2.2.2.2.2.1 HP.out.2.2.2.2.2.2.2.2.2.1 HP.out.2.2.2.2.2.2.2.2.2.2).mono ?_
    rintro e w3 ⟨a3, p3, rfl, i3, o3, k3⟩
    have hlt := I0.out.lt
    have O1' : Hid (SliceOf w3 a1 m l) := by
      have h2 := ownsRow_keep O1.out K2.out (fun i hi _ he => by omega)
      have h3 := ownsRow_keep h2 k3 (fun i hi _ he => by omega)
      exact sliceOf_own h3
    have O3 : Hid (SliceOf w3 a3 m l) := sliceOf_own o3
    have hml : m ≤ maxLen := by unfold maxLen; omega
    clear i3 o3
    have K3 := Lib.hid k3
    clear k3 hlt
    go_wp2_with (first
      | (go_at_call 10; refine (ints_same _ _ _ _ _ _ _ l O1'.out O3.out hml hml).mono ?_; rintro e w' ⟨rfl, kk, rfl⟩)
      | (go_at_call 11; refine (lives_ok _).mono ?_; rintro e w4 ⟨rfl, hk4⟩))
    go_ret
    refine ⟨rfl, ?_⟩
    have hs : ∀ i, i = b → False ∨ w.heap.size ≤ i := fun i hi => .inr (by have := HB.out; omega)
    exact Keep.below (((((K0.out.step K1.out hs).step K2.out hs).step K3.out hs).trans (Keep.drewN _ _ _)).trans (by assumption)) (Nat.le_refl _) (fun _ h => h.elim)
end Go.Proofs.Ytffkilfcphbbdaa
