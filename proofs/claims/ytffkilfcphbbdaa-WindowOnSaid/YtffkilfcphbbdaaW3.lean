/- The window's readers, and the comparison of two slices of numbers, walked. -/
import Derived.Test.YtffkilfcphbbdaaW2
namespace Go.Proofs.Ytffkilfcphbbdaa
open Go.RowKit
theorem next_to (w : World) (b : Nat) (x : Win) (hx : x.Ok) (hw : IsWin w b 48 x) (ack hav now : Int) (hg : Win.good ack hav now = true) (x' : Win) (n : Nat) (l : List Int)
    (h1 : x.next ack hav now = x') (h2 : x.few ack hav now = n) (h3 : x.out ack hav now = l) :
    Calls Try.prog 9 #[.pointer (some ⟨b, 0, none⟩), .int .i64 ack, .int .i64 hav, .int .i64 now] w fun e w' => ∃ a cap,
      e = .returned (.tuple #[.slice a n cap, .int .i64 0]) ∧ IsWin w' b 48 x' ∧ w'.ownsRow w.heap.size 3 1 (.slice a n cap) n (l.map (Value.int .i64)) ∧ Keep (· = b) w w' := by
  subst h1 h2 h3
  refine (next_ok w b x hx hw ack hav now hg).mono ?_
  rintro e w' ⟨v, rfl, h1, h2, h3⟩
  obtain ⟨a, cap, rfl, _⟩ := own_len h2
  exact ⟨a, cap, rfl, h1, h2, h3⟩
set_option maxHeartbeats 400000 in
theorem ack_ok (w : World) (b : Nat) (x : Win) (hx : x.Ok) (hw : IsWin w b 48 x) :
    Calls Try.prog 15 #[.pointer (some ⟨b, 0, none⟩)] w fun e w' => e = .returned (.int .i64 x.ack) ∧ w = w' := by
  obtain ⟨c0, c1, c2, c3, c4⟩ := hw.cells
  have HX := Lib.hid hx
  have HW := Lib.hid hw
  clear hx hw
  go_enter Try.func15, Try.ntmps15
  go_wp2_with (go_at_call 18; refine (none_any _ _ x HX.out _ HW.out).mono ?_; rintro e w' ⟨rfl, rfl⟩)
  go_ret
  exact ⟨rfl, rfl⟩
set_option maxHeartbeats 400000 in
theorem sent_ok (w : World) (b : Nat) (x : Win) (hx : x.Ok) (hw : IsWin w b 48 x) :
    Calls Try.prog 16 #[.pointer (some ⟨b, 0, none⟩)] w fun e w' => e = .returned (.int .i64 x.sent) ∧ w = w' := by
  obtain ⟨c0, c1, c2, c3, c4⟩ := hw.cells
  have HX := Lib.hid hx
  have HW := Lib.hid hw
  clear hx hw
  go_enter Try.func16, Try.ntmps16
  go_wp2_with (go_at_call 18; refine (none_any _ _ x HX.out _ HW.out).mono ?_; rintro e w' ⟨rfl, rfl⟩)
  go_ret
  exact ⟨rfl, rfl⟩
set_option maxHeartbeats 400000 in
theorem open_ok (w : World) (b : Nat) (x : Win) (hx : x.Ok) (hw : IsWin w b 48 x) :
    Calls Try.prog 17 #[.pointer (some ⟨b, 0, none⟩)] w fun e w' => e = .returned (.int .i64 (x.sent - x.ack)) ∧ w = w' := by
  have h1 := hx.a1
  have h2 := hx.a2
  have h3 := hx.t1
  have h4 := hx.t2
  have h5 := hx.s2
  have HX := Lib.hid hx
  have HW := Lib.hid hw
  clear hx hw
  go_enter Try.func17, Try.ntmps17
  go_wp2_with (first
    | (go_at_call 16; refine (sent_ok _ _ x HX.out HW.out).mono ?_; rintro e w' ⟨rfl, rfl⟩)
    | (go_at_call 15; refine (ack_ok _ _ x HX.out HW.out).mono ?_; rintro e w' ⟨rfl, rfl⟩))
  go_ret
  exact ⟨rfl, rfl⟩
theorem zero3 (k : Nat) (hk : k = 15 ∨ k = 16 ∨ k = 17) (w : World) (p : Option Addr) (h : Calls Try.prog 18 #[.pointer p] w fun e w' => e = .returned (.bool true) ∧ w = w') :
    Calls Try.prog k #[.pointer p] w fun e w' => e = .returned (.int .i64 0) ∧ w = w' := by
  have H := Lib.hid h
  clear h
  rcases hk with rfl | rfl | rfl
  · go_enter Try.func15, Try.ntmps15
    go_wp2_with (go_at_call 18; refine H.out.mono ?_; rintro e w' ⟨rfl, rfl⟩)
    go_ret
    exact ⟨rfl, rfl⟩
  · go_enter Try.func16, Try.ntmps16
    go_wp2_with (go_at_call 18; refine H.out.mono ?_; rintro e w' ⟨rfl, rfl⟩)
    go_ret
    exact ⟨rfl, rfl⟩
  · go_enter Try.func17, Try.ntmps17
    go_wp2_with (first
      | (go_at_call 18; refine H.out.mono ?_; rintro e w' ⟨rfl, rfl⟩)
      | go_in)
    go_ret
    exact ⟨rfl, rfl⟩
/-- Two slices of the same numbers. -/
def SliceOf (w : World) (a : Option Addr) (n : Nat) (l : List Int) : Prop :=
  l.length = n ∧ ∀ i, i < n → ∃ ad : Addr, a = some ad ∧ ad.spot = none ∧ w.cell? (ad.add i) = some (.int .i64 (l.getD i 0))
theorem take_next {l1 l2 : List Int} {k : Nat} (h : l1.take k = l2.take k) (h1 : k < l1.length) (h2 : k < l2.length) (he : l1.getD k 0 = l2.getD k 0) : l1.take (k + 1) = l2.take (k + 1) := by
  rw [List.take_succ_eq_append_getElem h1, List.take_succ_eq_append_getElem h2, h]
  rw [List.getD_eq_getElem?_getD, List.getD_eq_getElem?_getD, List.getElem?_eq_getElem h1, List.getElem?_eq_getElem h2] at he
  simp only [Option.getD_some] at he
  rw [he]
set_option maxHeartbeats 400000 in
theorem ints_ok (w : World) (a1 a2 : Option Addr) (n1 c1 n2 c2 : Nat) (l1 l2 : List Int) (h1 : SliceOf w a1 n1 l1) (h2 : SliceOf w a2 n2 l2) (hm1 : n1 ≤ maxLen) (hm2 : n2 ≤ maxLen) :
    Calls Try.prog 10 #[.slice a1 n1 c1, .slice a2 n2 c2] w fun e w' => e = .returned (.bool (decide (l1 = l2))) ∧ ∃ k, w' = w.drewN k := by
  unfold maxLen at hm1 hm2
  by_cases hn : n1 = n2
  · subst hn
    have hz : ((n1 : Int) != n1) = false := by simp
    have HL : Hid (l1.length = n1 ∧ l2.length = n1) := ⟨h1.1, h2.1⟩
    have H1 := Lib.hid h1.2
    have H2 := Lib.hid h2.2
    clear h1 h2
    go_enter Try.func10, Try.ntmps10
    go_wp2
    go_loopw [5] (fun i wr => ∃ k : Nat, k ≤ n1 ∧ i = .int .i64 k ∧ Hid (l1.take k = l2.take k) ∧ Hid (∃ q, wr = w.drewN q)) (fun i _ => n1 - (intOf i).toNat)
    case atStart => exact ⟨0, by omega, rfl, rfl, 0, rfl⟩
    case round =>
      obtain ⟨k, hk, rfl, heq, ⟨q, rfl⟩⟩ := hrel
      by_cases hlt : k < n1
      · obtain ⟨⟨b1, o1, _⟩, rfl, rfl, d1⟩ := H1.out k hlt
        obtain ⟨⟨b2, o2, _⟩, rfl, rfl, d2⟩ := H2.out k hlt
        rw [add_none] at d1 d2
        have hp : (0 : Int) ≤ k := by omega
        have hp2 : (k : Int) < n1 := by omega
        obtain ⟨u1, hu1⟩ : ∃ u, u = l1.getD k 0 := ⟨_, rfl⟩
        obtain ⟨u2, hu2⟩ : ∃ u, u = l2.getD k 0 := ⟨_, rfl⟩
        rw [← hu1] at d1
        rw [← hu2] at d2
        have HU : Hid (u1 = l1.getD k 0 ∧ u2 = l2.getD k 0) := ⟨hu1, hu2⟩
        clear hu1 hu2
        go_wp2
        go_quiet (fail)
        go_wp2
        · go_ret
          refine ⟨?_, _, World.drewN_drewN _ _ _⟩
          have hne : u1 ≠ u2 := by simp at *; assumption
          have : l1 ≠ l2 := fun e => hne (by rw [HU.out.1, HU.out.2, e])
          simp [this]
        · go_roundw
          case rel =>
            have he : u1 = u2 := by simp at *; assumption
            refine ⟨k + 1, by omega, by go_num, ?_, _, rfl⟩
            exact take_next heq.out (by rw [HL.out.1]; omega) (by rw [HL.out.2]; omega) (by rw [← HU.out.1, ← HU.out.2, he])
          case measure => simp [intOf]; omega
      · obtain rfl : k = n1 := by omega
        go_wp2
        go_ret
        refine ⟨?_, _, rfl⟩
        have := heq.out
        rw [List.take_of_length_le (by rw [HL.out.1]; omega), List.take_of_length_le (by rw [HL.out.2]; omega)] at this
        simp [this]
  · have hz : ((n1 : Int) != n2) = true := by simpa using fun h => hn (by omega)
    have hf : decide (l1 = l2) = false := by
      simp only [decide_eq_false_iff_not]; intro h; subst h; exact hn (h1.1.symm.trans h2.1)
    rw [hf]
    clear h1 h2 hf
    go_enter Try.func10, Try.ntmps10
    go_wp2
    go_ret
    exact ⟨rfl, 0, rfl⟩
end Go.Proofs.Ytffkilfcphbbdaa
