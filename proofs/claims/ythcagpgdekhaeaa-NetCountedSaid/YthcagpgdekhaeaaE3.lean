/- What NetPlays does: it answers true. -/
import Derived.Test.YthcagpgdekhaeaaE2
namespace Go.Proofs.Ythcagpgdekhaeaa
open Go.RowKit
theorem lsum_each (l : List A) (h : lsum l ≤ 12000) : l.length ≤ 1200 ∧ ∀ (k : Nat) (x : A), l[k]? = some x → x.s.size ≤ 12000 := by
  induction l with
  | nil => exact ⟨Nat.zero_le _, fun k x hx => by simp at hx⟩
  | cons y l ih =>
    simp only [lsum, List.map_cons, List.sum_cons] at h
    have h' : lsum l ≤ 12000 := by unfold lsum; omega
    have hlen : l.length * 10 ≤ lsum l := by
      clear ih h h'
      induction l with
      | nil => exact Nat.zero_le _
      | cons z l ih => simp only [lsum, List.map_cons, List.sum_cons, List.length_cons] at ih ⊢; omega
    unfold lsum at hlen
    refine ⟨by rw [List.length_cons]; omega, fun k x hx => ?_⟩
    cases k with
    | zero =>
      simp only [List.getElem?_cons_zero, Option.some.injEq] at hx
      subst hx
      omega
    | succ k => exact (ih h').2 k x (by simpa using hx)
set_option maxHeartbeats 8000000 in
theorem plays_any (most : Int) (a : Option Addr) (l : List A) (cap : Nat) (w : World) (hl : l.length ≤ maxLen) (hA : Acts w a l) : Calls Try.prog 5 #[.int .i64 most, .slice a l.length cap] w fun e w' => e = .returned (.bool true) ∧ Below w.heap.size w w' := by
  have HA := Lib.hid hA
  have HV : Hid (∀ W, Calls Try.prog 10 #[] W fun e w' => e = .returned (.bool true) ∧ Keep (fun _ => False) W w') := fun W => lives_any W
  have HLT : Hid (∀ W, Keep (fun _ => False) w W → Calls Try.prog 9 #[.slice a l.length cap] W (LightPost l W)) := fun W k => light_any a l cap W hl (hA.keep k)
  clear hA
  by_cases hm : most < 1 ∨ 64 < most
  · go_enter Try.func5, Try.ntmps5
    go_wp2_with (first | (go_at_call 8; refine (new_none most w hm).mono ?_; rintro e W1 ⟨rfl, rfl⟩) | (go_at_call 17; refine (ref_new_none most _ hm).mono ?_; rintro e W1 ⟨rfl, rfl⟩) | (go_at_call 10; refine (HV.out _).mono ?_; rintro e W2 ⟨rfl, hk⟩; have KC := Lib.hid hk; clear hk))
    exact bodyPost_ret (v := .bool true) (by simp [results, Try.results5, go_sem]) rfl ⟨rfl, KC.out.below (Nat.le_refl _) (fun _ h => h.elim)⟩
  · have h1 : 1 ≤ most := by omega
    have h2 : most ≤ 64 := by omega
    obtain ⟨n, hn⟩ : ∃ n, l.length = n := ⟨_, rfl⟩
    have HNL := Lib.hid hn
    rw [hn] at HLT hl ⊢
    clear hn
    unfold maxLen at hl
    go_enter Try.func5, Try.ntmps5
    go_wp2_with (first | (go_at_call 8; refine (own_new most w w none1 (Keep.refl _ _) (fun _ h => h.elim) h1 h2).mono ?_; rintro e W1 ⟨nb, rfl, hn, _⟩; have N1 := Lib.hid hn; clear hn) | (go_at_call 17; refine (duo_new N1.out h1 h2).mono ?_; rintro e W2 ⟨rb, rfl, hd⟩; have D2 := Lib.hid hd; clear hd))
    with_reducible refine (HLT.out _ ?ha).mono ?_
    case ha => exact D2.out.keep
    rintro e W3 hp
    obtain ⟨b, rfl, hb, dn, rfl⟩ := (show ∃ b : Bool, e = .returned (.bool b) ∧ (b = true → lsum l ≤ 12000) ∧ ∃ m, W3 = W2.drewN m from hp)
    have D3 : Hid (Duo w (W2.drewN dn) nb rb most st0 st0 none1) := D2.out.keep0 (Keep.drewN _ _ _)
    cases b with
    | false =>
      go_wp2_with (go_at_call 10; refine (HV.out _).mono ?_; rintro e W4 ⟨rfl, hk⟩; have KC := Lib.hid (D3.out.keep.trans hk); clear hk)
      exact bodyPost_ret (v := .bool true) (by simp [results, Try.results5, go_sem]) rfl ⟨rfl, KC.out.below (Nat.le_refl _) (fun _ h => h.elim)⟩
    | true =>
      have hlt := hb rfl
      have HSM := Lib.hid (lsum_each l hlt)
      obtain ⟨X, hX⟩ : ∃ X, W2.drewN dn = X := ⟨_, rfl⟩
      rw [hX] at D3
      clear hb hlt
      go_wp2_with fail
      clear hX
      go_loopw [28] (fun t wr => ∃ (k : Nat) (st : St), k ≤ n ∧ t = .int .i64 k ∧ Fine most st k ∧ Duo w wr nb rb most st st none1) (fun t _ => n - (intOf t).toNat)
      case atStart => exact ⟨0, st0, Nat.zero_le _, rfl, fine0 h1, D3.out⟩
      case round =>
        obtain ⟨k, st, hk, rfl, hf, hd⟩ := hrel
        have HFI := Lib.hid hf
        have HDU := Lib.hid hd
        clear hf hd
        by_cases hkn : k < n
        · obtain ⟨x, hx⟩ : ∃ x, l[k]? = some x := ⟨_, List.getElem?_eq_getElem (by rw [HNL.out]; exact hkn)⟩
          obtain ⟨⟨b0, o0, ha, c0, c1, c2, c3, c4, c5⟩, hbs, _⟩ := (HA.out.keep HDU.out.keep) k x hx
          have hxs := HSM.out.2 k x hx
          have hn0 := HSM.out.1
          rw [HNL.out] at hn0
          have HDO : Hid (∀ X', Keep (fun _ => False) wr X' → Calls Try.prog 18 #[.pointer (some ⟨nb, 0, none⟩), .pointer (some ⟨rb, 0, none⟩), x.v] X' (DoneDuo w nb rb most st none1 X')) := fun X' kk => do_any k h1 h2 HFI.out (by omega) (HDU.out.keep0 kk) x (HA.out k x hx).2.1 (by omega)
          subst ha
          have hk' : (k : Int) < n := by omega
          clear hx hbs hxs
          unfold A.v at HDO
          go_wp2_with (go_at_call 18; refine (HDO.out _ (Keep.alloc _ _ _)).mono ?_; rintro e W5 ⟨rfl, st1, hg, hd, _⟩; have HG := Lib.hid hg; have HD5 := Lib.hid hd; clear hg hd)
          with_reducible refine (same_any HD5.out h1).mono ?_
          rintro e W6 ⟨rfl, hk6⟩
          have HD6 := Lib.hid (HD5.out.keep0 hk6)
          clear hk6
          go_wp2_with fail
          go_roundw
          case rel => exact ⟨k + 1, st1, by omega, by go_num, HFI.out.goes HG.out, HD6.out⟩
          case measure => simp [intOf]; omega
        · have hkm : k = n := by omega
          subst hkm
          go_wp2_with (go_at_call 10; refine (HV.out _).mono ?_; rintro e W4 ⟨rfl, hk⟩; have KC := Lib.hid (HDU.out.keep.trans hk); clear hk)
          exact bodyPost_ret (v := .bool true) (by simp [results, Try.results5, go_sem]) rfl ⟨rfl, KC.out.below (Nat.le_refl _) (fun _ h => h.elim)⟩
end Go.Proofs.Ythcagpgdekhaeaa
