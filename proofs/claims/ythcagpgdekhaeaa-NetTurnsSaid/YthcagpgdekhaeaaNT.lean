/- What NetTurns does: it answers true. -/
import Derived.Test.YthcagpgdekhaeaaN15
import Derived.Test.YthcagpgdekhaeaaN14
namespace Go.Proofs.Ythcagpgdekhaeaa
open Go.RowKit
theorem place (pos : Int) (n : Nat) (h0 : ¬ n = 0) (h : n ≤ 5000) : ∃ K : Nat, K < n ∧ wrap64 ((IntKind.u64.wrap pos).tmod (n : Int)) = (K : Int) := by
  have hu : 0 ≤ IntKind.u64.wrap pos := by rw [IntKind.wrap_u64]; omega
  have h1 : (IntKind.u64.wrap pos).tmod (n : Int) = IntKind.u64.wrap pos % (n : Int) := Int.tmod_eq_emod_of_nonneg hu
  have h2 : 0 ≤ IntKind.u64.wrap pos % (n : Int) := Int.emod_nonneg _ (by omega)
  have h3 : IntKind.u64.wrap pos % (n : Int) < n := Int.emod_lt_of_pos _ (by omega)
  refine ⟨(IntKind.u64.wrap pos % (n : Int)).toNat, by omega, ?_⟩
  rw [h1, IntWalk.wrap64_in _ ⟨by omega, by omega⟩]
  omega
set_option maxHeartbeats 8000000 in
set_option maxRecDepth 100000 in
theorem turns_walk (a : Option Addr) (s : ByteArray) (cap : Nat) (pos : Int) (b : UInt8) (w : World) (hl : s.size ≤ maxLen) (hb : Bs w a s) :
    Calls Try.prog 4 #[.slice a s.size cap, .int .i64 pos, .int .u8 (b.toNat : Int)] w fun e w' => e = .returned (.bool true) ∧ Below w.heap.size w w' := by
  have HB := Lib.hid hb
  have HV : Hid (∀ W, Calls Try.prog 10 #[] W fun e w' => e = .returned (.bool true) ∧ Keep (fun _ => False) W w') := fun W => lives_any W
  unfold maxLen at hl
  clear hb
  obtain ⟨n, hn⟩ : ∃ n, s.size = n := ⟨_, rfl⟩
  have HN := Lib.hid hn
  rw [hn] at hl ⊢
  clear hn
  by_cases h5 : (5000 : Int) < n
  · go_enter Try.func4, Try.ntmps4
    go_wp2_with (first | (go_at_call 8; refine (own_new 3 w _ none1 (Keep.refl _ _) (fun _ h => h.elim) (by decide) (by decide)).mono ?_; rintro e W1 ⟨nb, rfl, hn, _⟩; have N1 := Lib.hid hn; clear hn) | (go_at_call 10; refine (HV.out _).mono ?_; rintro e W3 ⟨rfl, hk⟩; have KC := Lib.hid (N1.out.keep.trans hk); clear hk))
    go_ret
    exact ⟨rfl, KC.out.below (Nat.le_refl _) (fun _ h => h.elim)⟩
  · go_enter Try.func4, Try.ntmps4
    go_wp2_with (go_at_call 8; refine (own_new 3 w _ none1 (Keep.refl _ _) (fun _ h => h.elim) (by decide) (by decide)).mono ?_; rintro e W1 ⟨nb, rfl, hn, _⟩; have N1 := Lib.hid hn; clear hn)
    have HS : Hid (Calls Try.prog 11 #[.pointer (some ⟨nb, 0, none⟩), .int .i64 2, .slice a n cap] W1 fun e w' => e = .returned (.int .i64 0) ∧ Own w w' nb 3 [(2, s)] 1 0 0 0 none1) := by
      have := (N1.out.send_ok 2 a s cap (.inr rfl) (by rw [HN.out]; omega) (HB.out.keep0 N1.out.keep) (by simp) (by decide) (by decide) (by decide)).mono (R' := fun e w' => e = .returned (.int .i64 0) ∧ Own w w' nb 3 [(2, s)] 1 0 0 0 none1) (fun e w' ⟨he, hp, _⟩ => ⟨he, hp⟩)
      rw [HN.out] at this
      exact this
    with_reducible refine HS.out.mono ?_
    rintro e W2 ⟨rfl, hn⟩
    have N2 := Lib.hid hn
    clear hn HS
    go_wp2_with fail
    have HT : Hid (Calls Try.prog 14 #[.pointer (some ⟨nb, 0, none⟩), .int .i64 0] W2 fun e w' => e = .returned (.int .i64 0) ∧ Own w w' nb 3 [(2, s), (2, s)] 1 0 0 1 none1) := (N2.out.twice_ok 0 (2, s) rfl (by simp) (by decide) (by decide) (by decide)).mono (fun e w' ⟨he, hp, _⟩ => ⟨he, hp⟩)
    with_reducible refine HT.out.mono ?_
    rintro e W3 ⟨rfl, hn⟩
    have N3 := Lib.hid hn
    clear hn HT N1 N2
    by_cases h0 : n = 0
    · have hq : ((n : Int) == 0) = true := by simp [h0]
      go_wp2_with fail
      have HU : Hid (Calls Try.prog 15 #[.pointer (some ⟨nb, 0, none⟩), .int .i64 0, .int .i64 pos, .int .u8 (b.toNat : Int)] W3 fun e w' => e = .returned (.int .i64 2) ∧ Own w w' nb 3 [(2, s), (2, s)] 1 0 0 1 none1) := (N3.out.turn_arg 0 pos 2 s b (by decide) rfl (by rw [HN.out, h0]; omega)).mono (fun e w' ⟨he, hp, _⟩ => ⟨he, hp⟩)
      with_reducible refine HU.out.mono ?_
      rintro e W4 ⟨rfl, hn⟩
      have N4 := Lib.hid hn
      clear hn HU
      go_wp2_with (go_at_call 10; refine (HV.out _).mono ?_; rintro e W5 ⟨rfl, hk⟩; have KC := Lib.hid (N4.out.keep.trans hk); clear hk)
      go_ret
      exact ⟨rfl, KC.out.below (Nat.le_refl _) (fun _ h => h.elim)⟩
    · have hq : ((n : Int) == 0) = false := by simp [h0]
      obtain ⟨k, hkn, hke⟩ := place pos n h0 (by omega)
      have HKE := Lib.hid hke
      clear hke
      go_wp2_with fail
      rw [HKE.out]
      have HU : Hid (Calls Try.prog 15 #[.pointer (some ⟨nb, 0, none⟩), .int .i64 0, .int .i64 k, .int .u8 (b.toNat : Int)] W3 fun e w' => e = .returned (.int .i64 0) ∧ Own w w' nb 3 [(2, turned s k b), (2, s)] 1 0 0 1 none1) := (N3.out.turn_ok 0 k 2 s b (by decide) rfl (by rw [HN.out]; exact hkn)).mono (fun e w' ⟨he, hp, _⟩ => ⟨he, hp⟩)
      with_reducible refine HU.out.mono ?_
      rintro e W4 ⟨rfl, hn⟩
      have N4 := Lib.hid hn
      clear hn HU N3
      have HT1 : Hid (∀ j, j < n → ∃ h1 : j < (turned s k b).size, ∃ h2 : j < s.size, (turned s k b)[j] = if k = j then s[j] ^^^ b else s[j]) := fun j hj => ⟨by rw [turned_size, HN.out]; exact hj, by rw [HN.out]; exact hj, turned_at s k b j _⟩
      have HT2 : Hid (turned (turned s k b) k b = s) := turned_back s k b (by rw [HN.out]; exact hkn)
      have HT3 : Hid ((turned s k b).size = n) := by rw [← HN.out]; exact turned_size s k b
      generalize turned s k b = T at *
      go_wp2_with fail
      have HL : Hid (Calls Try.prog 16 #[.pointer (some ⟨nb, 0, none⟩), .int .i64 0] W4 fun e w' => e = .returned (.tuple #[.agg #[.int .i64 2, .string T], .int .i64 0]) ∧ Own w w' nb 3 [(2, T), (2, s)] 1 0 0 1 none1) := (N4.out.look_ok 0 2 T (by decide) rfl).mono (fun e w' ⟨he, hp, _⟩ => ⟨he, hp⟩)
      with_reducible refine HL.out.mono ?_
      rintro e W5 ⟨rfl, hn⟩
      have N5 := Lib.hid hn
      clear hn HL N4
      obtain ⟨q9, hq9⟩ : ∃ q, W5.heap.size = q := ⟨_, rfl⟩
      have HQ9 := Lib.hid hq9
      have G9 : Hid (w.heap.size ≤ q9) := by rw [← hq9]; exact N5.out.keep.size
      go_wp2_with fail
      have c9 : (W5.alloc (.cells #[.int .i64 2, .string T] 34)).heap[q9]? = some (.cells #[.int .i64 2, .string T] 34 (0, 0)) := by rw [← hq9]; exact heap_alloc_new _ _
      have N6 : Hid (Own w (W5.alloc (.cells #[.int .i64 2, .string T] 34)) nb 3 [(2, T), (2, s)] 1 0 0 1 (fun i => i = q9)) := (N5.out.fresh (Keep.alloc _ _ _)).less (fun i hi => .inr ⟨by omega, by simp; omega⟩)
      have HL : Hid (Calls Try.prog 16 #[.pointer (some ⟨nb, 0, none⟩), .int .i64 1] (W5.alloc (.cells #[.int .i64 2, .string T] 34)) fun e w' => e = .returned (.tuple #[.agg #[.int .i64 2, .string s], .int .i64 0]) ∧ Own w w' nb 3 [(2, T), (2, s)] 1 0 0 1 (fun i => i = q9) ∧ w'.heap[q9]? = some (.cells #[.int .i64 2, .string T] 34 (0, 0))) := (N6.out.look_ok 1 2 s (by decide) rfl).mono (fun e w' ⟨he, hp, hk⟩ => ⟨he, hp, hk.heap c9 (fun h => h)⟩)
      clear c9
      with_reducible refine HL.out.mono ?_
      rintro e W7 ⟨rfl, hn, c9⟩
      have N7 := Lib.hid hn
      have C9 := Lib.hid c9
      clear hn HL N5 N6 c9
      obtain ⟨q11, hq11⟩ : ∃ q, W7.heap.size = q := ⟨_, rfl⟩
      have HQ11 := Lib.hid hq11
      clear hq9
      go_wp2_with fail
      have C9b : Hid ((W7.alloc (.cells #[.int .i64 2, .string s] 34)).heap[q9]? = some (.cells #[.int .i64 2, .string T] 34 (0, 0))) := (Keep.alloc (fun _ => False) _ _).heap C9.out (fun h => h)
      have C11 : Hid ((W7.alloc (.cells #[.int .i64 2, .string s] 34)).heap[q11]? = some (.cells #[.int .i64 2, .string s] 34 (0, 0))) := by rw [← hq11]; exact heap_alloc_new _ _
      have N8 : Hid (Own w (W7.alloc (.cells #[.int .i64 2, .string s] 34)) nb 3 [(2, T), (2, s)] 1 0 0 1 (fun i => i = q9 ∨ i = q11)) := (N7.out.fresh (Keep.alloc _ _ _)).less (fun i hi => by
        rcases hi with hi | hi
        · exact .inl hi
        · exact .inr ⟨by omega, by simp; omega⟩)
      have QL : Hid (q9 < W7.heap.size) := lt_of_block C9.out
      generalize (W7.alloc (.cells #[.int .i64 2, .string s] 34)) = W8 at *
      clear N7 C9 hq11
      have e9 : W8.cell? ⟨q9, 1, none⟩ = some (.string T) := cell_of C9b.out 1
      go_loopw [72] (fun t wr => ∃ j : Nat, j ≤ n ∧ t = .int .i64 j ∧ wr = W8) (fun t _ => n - (intOf t).toNat)
      case atStart => exact ⟨0, Nat.zero_le _, rfl, rfl⟩
      case round =>
        obtain ⟨j, hj, rfl, rfl⟩ := hrel
        by_cases hlt : j < n
        · obtain ⟨h1, h2, hTj⟩ := HT1.out j hlt
          obtain ⟨bb, oo, rfl, hcell⟩ := (HB.out.keep0 N8.out.keep) j h2
          by_cases hkj : k = j
          · rw [if_pos hkj] at hTj
            subst hkj
            have hx : bits .xor .u8 (s[k].toNat : Int) (b.toNat : Int) = ((s[k].toNat ^^^ b.toNat : Nat) : Int) := u8_xor_nat _ _ (UInt8.toNat_lt _) (UInt8.toNat_lt _)
            have hd : decide (T.size ≤ k) = false := decide_eq_false (by omega)
            go_wp2_with fail
            go_roundw
            case rel => exact ⟨k + 1, by omega, by go_num, trivial⟩
            case measure => simp [intOf]; omega
          · rw [if_neg hkj] at hTj
            have hd : decide (T.size ≤ j) = false := decide_eq_false (by omega)
            have hne : ((j : Int) == (k : Int)) = false := beq_eq_false_iff_ne.2 (by omega)
            go_wp2_with fail
            go_roundw
            case rel => exact ⟨j + 1, by omega, by go_num, trivial⟩
            case measure => simp [intOf]; omega
        · have hjn : j = n := by omega
          subst hjn
          have e11 : wr.cell? ⟨q11, 1, none⟩ = some (.string s) := cell_of C11.out 1
          have cv : (convert 28 9 (.slice a j cap)).run Try.prog wr = .ok (.string s) wr := by
            have := (HB.out.keep0 N8.out.keep).conv cap
            rwa [HN.out] at this
          go_wp2_with fail
          have HU : Hid (Calls Try.prog 15 #[.pointer (some ⟨nb, 0, none⟩), .int .i64 0, .int .i64 k, .int .u8 (b.toNat : Int)] wr fun e w' => e = .returned (.int .i64 0) ∧ Own w w' nb 3 [(2, s), (2, s)] 1 0 0 1 (fun i => i = q9 ∨ i = q11) ∧ w'.heap[q9]? = some (.cells #[.int .i64 2, .string T] 34 (0, 0)) ∧ w'.heap[q11]? = some (.cells #[.int .i64 2, .string s] 34 (0, 0))) := by
            have := (N8.out.turn_ok 0 k 2 T b (by decide) rfl (by rw [HT3.out]; exact hkn))
            rw [HT2.out] at this
            exact this.mono (fun e w' ⟨he, hp, hk⟩ => ⟨he, hp, hk.heap C9b.out (fun hc => hc (.inl rfl)), hk.heap C11.out (fun hc => hc (.inr rfl))⟩)
          with_reducible refine HU.out.mono ?_
          rintro e W9 ⟨rfl, hn, d9, d11⟩
          have N9 := Lib.hid hn
          have D9 := Lib.hid d9
          have D11 := Lib.hid d11
          clear hn d9 d11 HU e9 e11 cv
          go_wp2_with fail
          have HL : Hid (Calls Try.prog 16 #[.pointer (some ⟨nb, 0, none⟩), .int .i64 0] W9 fun e w' => e = .returned (.tuple #[.agg #[.int .i64 2, .string s], .int .i64 0]) ∧ Own w w' nb 3 [(2, s), (2, s)] 1 0 0 1 (fun i => i = q9 ∨ i = q11) ∧ w'.heap[q9]? = some (.cells #[.int .i64 2, .string T] 34 (0, 0)) ∧ w'.heap[q11]? = some (.cells #[.int .i64 2, .string s] 34 (0, 0))) := (N9.out.look_ok 0 2 s (by decide) rfl).mono (fun e w' ⟨he, hp, hk⟩ => ⟨he, hp, hk.heap D9.out (fun h => h), hk.heap D11.out (fun h => h)⟩)
          with_reducible refine HL.out.mono ?_
          rintro e W10 ⟨rfl, hn, d9, d11⟩
          have N10 := Lib.hid hn
          have D9 := Lib.hid d9
          have f0 : W10.cell? ⟨q9, 0, none⟩ = some (.int .i64 2) := cell_of d9 0
          have f1 : W10.cell? ⟨q9, 1, none⟩ = some (.string T) := cell_of d9 1
          have f2 : W10.frozen? ⟨q9, 0, none⟩ = false := free_of d9 0
          have f3 : W10.frozen? ⟨q9, 1, none⟩ = false := free_of d9 1
          have f4 : W10.cell? ⟨q11, 0, none⟩ = some (.int .i64 2) := cell_of d11 0
          have f5 : W10.cell? ⟨q11, 1, none⟩ = some (.string s) := cell_of d11 1
          have f6 : ¬ q9 = q11 := by have := HQ11.out; have := QL.out; omega
          have H34 := fun w => equalIn34 9998 2 2 s s w
          simp only [and_self, decide_true] at H34
          clear hn d9 d11 HL
          go_wp2_with (go_at_call 10; refine (HV.out _).mono ?_; rintro e W11 ⟨rfl, hk⟩; have KC := Lib.hid (((N10.out.keep.setNew (p := ⟨q9, 0, none⟩) G9.out (.int .i64 2)).setNew (p := ⟨q9, 1, none⟩) G9.out (.string s)).trans hk); clear hk)
          go_ret
          exact ⟨rfl, KC.out.below (Nat.le_refl _) (fun _ h => h.elim)⟩
theorem turns_any (a : Option Addr) (n cap : Nat) (pos bits : Int) (w : World) (hb : (Lit.int .u8 bits).wf = true) (h : n ≤ maxLen ∧ ∃ s : ByteArray, n = s.size ∧ Bs w a s) :
    Calls Try.prog 4 #[.slice a n cap, .int .i64 pos, .int .u8 bits] w fun e w' => e = .returned (.bool true) ∧ Below w.heap.size w w' := by
  obtain ⟨hl, s, rfl, hs⟩ := h
  obtain ⟨h0, h1⟩ := u8_range hb
  have hz : ((UInt8.ofNat bits.toNat).toNat : Int) = bits := by
    rw [UInt8.toNat_ofNat']
    omega
  have := turns_walk a s cap pos (UInt8.ofNat bits.toNat) w hl hs
  rwa [hz] at this
end Go.Proofs.Ythcagpgdekhaeaa
