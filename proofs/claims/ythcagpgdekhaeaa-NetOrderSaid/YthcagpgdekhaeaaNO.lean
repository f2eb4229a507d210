/- What NetOrder does: it answers true. -/
import Derived.Test.YthcagpgdekhaeaaN14
namespace Go.Proofs.Ythcagpgdekhaeaa
open Go.RowKit
set_option maxHeartbeats 8000000 in
set_option maxRecDepth 100000 in
theorem order_walk (a : Option Addr) (l : List A) (cap : Nat) (w : World) (hl : l.length ≤ maxLen) (hA : Acts w a l) : Calls Try.prog 3 #[.slice a l.length cap] w fun e w' => e = .returned (.bool true) ∧ Below w.heap.size w w' := by
  have HL : Hid (∀ W, Keep (fun _ => False) w W → Calls Try.prog 9 #[.slice a l.length cap] W (LightPost l W)) := fun W k => light_any a l cap W hl (hA.keep k)
  have HA := Lib.hid hA
  have HV : Hid (∀ W, Calls Try.prog 10 #[] W fun e w' => e = .returned (.bool true) ∧ Keep (fun _ => False) W w') := fun W => lives_any W
  unfold maxLen at hl
  clear hA
  obtain ⟨n, hn⟩ : ∃ n, n = l.length := ⟨_, rfl⟩
  have HN := Lib.hid hn
  rw [← hn] at hl ⊢
  rw [← hn] at HL
  clear hn
  obtain ⟨i0, hi, hz0, hz1, hz2⟩ := info_parts Try.info34
  go_enter Try.func3, Try.ntmps3
  go_wp2_with (go_at_call 8; refine (own_new 64 w _ none1 (Keep.refl _ _) (fun _ h => h.elim) (by decide) (by decide)).mono ?_; rintro e W1 ⟨nb, rfl, hn, _⟩; have N1 := Lib.hid hn; clear hn)
  with_reducible refine (HL.out _ N1.out.keep).mono ?_
  rintro e W2 ⟨b, rfl, _, m, hm⟩
  have N2 : Hid (Own w W2 nb 64 [] 0 0 0 0 none1) := by rw [hm]; exact N1.out.keep0 (Keep.drewN _ _ _)
  clear hm m N1
  cases b
  · go_wp2_with (go_at_call 10; refine (HV.out _).mono ?_; rintro e W3 ⟨rfl, hk⟩; have KC := Lib.hid (N2.out.keep.trans hk); clear hk)
    go_ret
    exact ⟨rfl, KC.out.below (Nat.le_refl _) (fun _ h => h.elim)⟩
  · go_wp2_with fail
    have HB := Lib.hid (both_start N2.out)
    clear N2
    go_loopw [4, 28] (fun v t wr => ∃ k : Nat, k ≤ n ∧ t = .int .i64 k ∧ ∃ ps, Both w wr nb v ps) (fun _ t _ => n - (intOf t).toNat)
    case atStart => exact ⟨0, Nat.zero_le _, rfl, [], HB.out⟩
    case round =>
      obtain ⟨k, hk, rfl, ps, hB⟩ := hrel
      have HB := Lib.hid hB
      clear hB
      by_cases hlt : k < n
      · obtain ⟨x, hx⟩ : ∃ x, l[k]? = some x := ⟨_, List.getElem?_eq_getElem (by rw [← HN.out]; exact hlt)⟩
        obtain ⟨⟨b, o, rfl, h0, h1, h2, h3, h4, h5⟩, hb, hsz⟩ := (HA.out.keep HB.out.2.1.keep) k x hx
        have HBS := Lib.hid (HA.out k x hx).2.1
        clear hx hb hsz
        obtain ⟨q, hq⟩ : ∃ q, wr.heap.size = q := ⟨_, rfl⟩
        have HQ := Lib.hid hq
        by_cases hf : x.f = 1 ∨ x.f = 2
        · by_cases hs : x.s.size ≤ 1048592
          · by_cases hp : ps.length < 64
            · go_wp2_with fail
              with_reducible refine (HB.out.send_ok hp _ x.f x.da x.s x.cap hf hs HBS.out).mono ?_
              rintro e W3 ⟨rfl, hS, hc⟩
              have HS := Lib.hid hS
              rw [HQ.out] at hc
              have c1 : W3.cell? ⟨q, 1, none⟩ = some (.int .i64 x.f) := cell_of hc 1
              have c2 : W3.cell? ⟨q, 2, none⟩ = some (.slice x.da x.s.size x.cap) := cell_of hc 2
              have cv := (HBS.out.keep0 hS.2.1.keep).conv x.cap
              clear hS hc
              go_wp2_with (at_builtin; refine wpList_append_lies _ rfl _ _ 27 rfl w.heap.size 34 i0 (.agg #[.int .i64 0, .string ⟨#[]⟩]) 2 24 Try.underlying27 hi hz0 hz1 hz2 rfl (by decide) _ _ _ rfl (HS.out.2.2.alloc _) ⟨W3.heap.size, 0, none⟩ 1 1 [.int .i64 x.f, .string x.s] rfl rfl (two_news (heap_alloc_new _ _)) (two_one x.f x.s) (by decide) ?c3 ?c4 ?c5 _ rfl ?_)
              case c3 => unfold maxLen; omega
              case c4 => omega
              case c5 => exact Nat.le_trans HS.out.2.1.keep.size (by simp)
              intro g cap' W5 hown hgrow hat hlt5
              have HB5 := Lib.hid (HS.out.row _ hown hgrow hat hlt5)
              clear hown hgrow hat hlt5 c1 c2 cv h0 h1 h2 h3 h4 h5
              go_wp2_with fail
              go_roundw
              case rel => exact ⟨k + 1, by omega, by go_num, ps ++ [(x.f, x.s)], HB5.out⟩
              case measure => simp [intOf]; omega
            · go_wp2_with fail
              with_reducible refine (HB.out.send_full (by omega) _ x.f x.da x.s x.cap hf hs HBS.out).mono ?_
              rintro e W3 ⟨rfl, hS⟩
              have HS := Lib.hid hS
              clear hS
              go_wp2_with fail
              go_roundw
              case rel => exact ⟨k + 1, by omega, by go_num, ps, HS.out⟩
              case measure => simp [intOf]; omega
          · go_wp2_with fail
            with_reducible refine (HB.out.send_long _ x.f x.da x.s.size x.cap hf (by omega)).mono ?_
            rintro e W3 ⟨rfl, hS⟩
            have HS := Lib.hid hS
            clear hS
            go_wp2_with fail
            go_roundw
            case rel => exact ⟨k + 1, by omega, by go_num, ps, HS.out⟩
            case measure => simp [intOf]; omega
        · go_wp2_with fail
          with_reducible refine (HB.out.send_arg _ x.f x.da x.s.size x.cap (by omega)).mono ?_
          rintro e W3 ⟨rfl, hS⟩
          have HS := Lib.hid hS
          clear hS
          go_wp2_with fail
          go_roundw
          case rel => exact ⟨k + 1, by omega, by go_num, ps, HS.out⟩
          case measure => simp [intOf]; omega
      · have hkn : k = n := by omega
        subst hkn
        obtain ⟨a4, cap4, hv, _, _⟩ := own_len HB.out.2.2
        subst hv
        have HD := Lib.hid HB.out.drain
        clear HA HN
        go_wp2_with fail
        obtain ⟨m, hm⟩ : ∃ m, m = ps.length := ⟨_, rfl⟩
        have HM := Lib.hid hm
        have hm64 : m ≤ 64 := by rw [hm]; exact HD.out.1
        rw [← hm]
        clear hm
        go_loopw [51] (fun t wr => ∃ j : Nat, j ≤ m ∧ t = .int .i64 j ∧ Drain w wr nb (.slice a4 ps.length cap4) ps j) (fun t _ => m - (intOf t).toNat)
        case atStart => exact ⟨0, Nat.zero_le _, rfl, HD.out⟩
        case round =>
          obtain ⟨j, hj, rfl, hD⟩ := hrel
          have HDj := Lib.hid hD
          clear hD
          by_cases hlt2 : j < m
          · obtain ⟨f, s, hp⟩ : ∃ f s, ps[j]? = some (f, s) := ⟨_, _, List.getElem?_eq_getElem (by rw [← HM.out]; exact hlt2)⟩
            obtain ⟨g, rfl, p0, p1⟩ := HDj.out.packet f s hp
            have HP := Lib.hid hp
            clear hp
            have H34 := fun w => equalIn34 9998 f f s s w
            simp only [and_self, decide_true] at H34
            obtain ⟨q, hq⟩ : ∃ q, wr.heap.size = q := ⟨_, rfl⟩
            have HQ := Lib.hid hq
            go_wp2_with fail
            with_reducible refine (HDj.out.take f s HP.out _).mono ?_
            rintro e W3 ⟨rfl, hS, hc⟩
            have HS := Lib.hid hS
            rw [HQ.out] at hc
            have c0 : W3.cell? ⟨q, 0, none⟩ = some (.int .i64 f) := cell_of hc 0
            have c1 : W3.cell? ⟨q, 1, none⟩ = some (.string s) := cell_of hc 1
            have c2 : q < W3.heap.size := lt_of_block hc
            clear hS hc p0 p1
            go_wp2_with fail
            go_roundw
            case rel => exact ⟨j + 1, by omega, by go_num, HS.out.keep0 (Keep.alloc _ _ _)⟩
            case measure => simp [intOf]; omega
          · have hjm : j = m := by omega
            subst hjm
            have HE : Hid (Drain w wr nb (.slice a4 ps.length cap4) ps ps.length) := by rw [HM.out] at HDj; exact HDj.out
            clear HDj
            go_wp2_with fail
            with_reducible refine HE.out.empty.mono ?_
            rintro e W3 ⟨rfl, hS⟩
            have HS := Lib.hid hS
            clear hS
            go_wp2_with fail
            with_reducible refine (HS.out.keep0 (Keep.alloc _ _ _)).len.mono ?_
            rintro e W4 ⟨rfl, rfl⟩
            go_wp2_with (go_at_call 10; refine (HV.out _).mono ?_; rintro e W5 ⟨rfl, hk⟩; have KC := Lib.hid ((HS.out.2.1.keep.allocR _).trans hk); clear hk)
            go_ret
            exact ⟨rfl, KC.out.below (Nat.le_refl _) (fun _ h => h.elim)⟩
theorem order_any (a : Option Addr) (n cap : Nat) (w : World) (hl : n ≤ maxLen) (h : ∃ l : List A, n = l.length ∧ Acts w a l) : Calls Try.prog 3 #[.slice a n cap] w fun e w' => e = .returned (.bool true) ∧ Below w.heap.size w w' := by
  obtain ⟨l, rfl, hA⟩ := h
  exact order_walk a l cap w hl hA
end Go.Proofs.Ythcagpgdekhaeaa
