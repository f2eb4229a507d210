/- The walk of WindowFew: it returns true and turns nothing that was there. -/
import Derived.Test.YtffkilfcphbbdaaL4
namespace Go.Proofs.Ytffkilfcphbbdaa
open Go.RowKit
theorem Win.inv_next {x : Win} {ack hav now : Int} : (x.next ack hav now).ack ≤ (x.next ack hav now).sent ∧ (x.next ack hav now).size = x.size := by
  unfold Win.next
  have h : x.ack1 ack ≤ x.sent1 ack now := by unfold Win.sent1; split <;> omega
  split
  · exact ⟨h, rfl⟩
  · exact ⟨by dsimp only; omega, rfl⟩
/-- What Next tells, whatever it is asked. -/
theorem next_few (w : World) (b : Nat) (x : Win) (hx : x.Ok) (hi : x.ack ≤ x.sent) (hw : IsWin w b 48 x) (ack hav now : Int) :
    Calls Try.prog 9 #[.pointer (some ⟨b, 0, none⟩), .int .i64 ack, .int .i64 hav, .int .i64 now] w fun e w' => ∃ (a : Option Addr) (m cap : Nat) (er : Int) (y : Win) (s : Int),
      e = .returned (.tuple #[.slice a m cap, .int .i64 er]) ∧ y.Ok ∧ y.size = x.size ∧ y.ack ≤ y.sent ∧ IsWin w' b 48 y ∧ Keep (· = b) w w' ∧ (er = 0 ∨ (er = 2 ∧ m = 0)) ∧ m ≤ 16 ∧ (m : Int) ≤ x.size ∧
      (∀ i, i < m → ∃ g, a = some ⟨g, 0, none⟩ ∧ w'.cell? ⟨g, i, none⟩ = some (.int .i64 (s + 1 + i)) ∧ y.ack ≤ s ∧ s + m ≤ y.ack + y.size ∧ s + m ≤ hav ∧ s ≤ 1099511627776) := by
  by_cases hg : Win.good ack hav now = true
  · refine (next_to w b x hx hw ack hav now hg _ _ _ rfl rfl rfl).mono ?_
    rintro e w' ⟨a, cap, rfl, h1, h2, h3⟩
    have hfl := Win.few_le hx ack hav now
    have ha1 : (x.next ack hav now).ack = x.ack1 ack := by unfold Win.next; split <;> rfl
    have hs1 : x.ack1 ack ≤ x.sent1 ack now := by unfold Win.sent1; split <;> omega
    have hfew : (x.few ack hav now : Int) = max 0 (min hav (x.ack1 ack + x.size) - x.sent1 ack now) := by unfold Win.few; omega
    have hz := hx.s1
    have hok := Win.ok_next hx hg
    have h2' := hx.s2
    have hs2 : x.sent1 ack now ≤ 1099511627776 + 16 := by
      have := hx.t2; have := hx.a2; have := hx.s2
      simp only [Win.good, decide_eq_true_eq] at hg
      unfold Win.sent1 Win.ack1; split <;> omega
    refine ⟨a, _, cap, 0, _, x.sent1 ack now, rfl, hok, Win.inv_next.2, Win.inv_next.1, h1, h3, .inl rfl, by omega, by omega, fun i hi => ?_⟩
    obtain ⟨g, rfl, _, hc⟩ := own_int h2 i hi
    refine ⟨g, rfl, ?_, ?_, ?_, ?_, ?_⟩
    · rw [hc]
      unfold Win.out
      rw [upTo_getD _ _ _ hi]
    · rw [ha1]; exact hs1
    · rw [ha1, Win.inv_next.2]; omega
    · omega
    · simp only [Win.good, decide_eq_true_eq] at hg; omega
  · refine (next_bad w b x hx hw ack hav now (Bool.eq_false_iff.2 hg)).mono ?_
    rintro e w' ⟨rfl, rfl⟩
    exact ⟨none, 0, 0, 2, x, 0, rfl, hx, rfl, hi, hw, Keep.refl _ _, .inr ⟨rfl, rfl⟩, by omega, by have := hx.s1; omega, fun i hi => by omega⟩
/-- The window holds good numbers of the given width; nothing that was there at w has turned. -/
def Good (w : World) (b : Nat) (k : Int) (wc : World) : Prop := ∃ x : Win, x.Ok ∧ x.size = k ∧ x.ack ≤ x.sent ∧ IsWin wc b 48 x ∧ Keep (fun _ => False) w wc
set_option maxRecDepth 100000 in
set_option maxHeartbeats 1000000 in
theorem few_walk (z0 z1 : Int) (a : Option Addr) (n cap : Nat) (w : World) (hn : n ≤ maxLen) (ha : Acts w a n) :
    Calls Try.prog 6 #[.int .i64 z0, .int .i64 z1, .slice a n cap] w fun e w' => e = .returned (.bool true) ∧ Below w.heap.size w w' := by
  unfold maxLen at hn
  obtain ⟨q0, e0, p0, r0⟩ := umod z0 16 (by omega)
  obtain ⟨q1, e1, p1, r1⟩ := umod z1 64 (by omega)
  have HA := Lib.hid ha
  clear ha
  go_enter Try.func6, Try.ntmps6
  go_wp2_with fail
  refine (new_ok _ _ _ (by omega)).mono ?_
  rintro e w' ⟨rfl, rfl⟩
  obtain ⟨b, hb'⟩ : ∃ b, b = w.heap.size := ⟨_, rfl⟩
  obtain ⟨wa, hwa⟩ : ∃ wa, wa = w.alloc (.cells #[.int .i64 (1 + q0), .int .i64 (1 + q1), .int .i64 0, .int .i64 0, .int .i64 0] 48) := ⟨_, rfl⟩
  have i0 : IsWin wa b 48 ⟨1 + q0, 1 + q1, 0, 0, 0⟩ := by rw [hwa, hb']; exact heap_alloc_new w _
  have k0 : Keep (fun _ => False) w wa := by rw [hwa]; exact Keep.alloc _ _ _
  rw [← hwa, ← hb']
  have I0 := Lib.hid i0
  have K0 := Lib.hid k0
  have HB := Lib.hid hb'
  clear hb' i0 k0 hwa
  by_cases hbig : 1000 < n
  · go_wp2_with (go_at_call 11; refine (lives_ok _).mono ?_; rintro e w4 ⟨rfl, hk4⟩)
    go_ret
    rename_i hk4
    exact ⟨rfl, Keep.below (K0.out.trans hk4) (Nat.le_refl _) (fun _ h => h.elim)⟩
  · go_wp2_with fail
    go_loopw [55] (fun i wr => ∃ k : Nat, k ≤ n ∧ i = .int .i64 k ∧ Good w b (1 + q0) wr) (fun i _ => n - (intOf i).toNat)
    case atStart => exact ⟨0, by omega, rfl, _, by constructor <;> dsimp only <;> omega, rfl, by dsimp only; omega, I0.out, K0.out⟩
    case round =>
      obtain ⟨k, hk, rfl, x, hx, hsz, hinv, hi, hkp⟩ := hrel
      have HX := Lib.hid hx
      have HS := Lib.hid hsz
      have HV := Lib.hid hinv
      have HI := Lib.hid hi
      have HK := Lib.hid hkp
      have HAk := Lib.hid (HA.out.keep hkp)
      clear hx hi hkp hsz hinv I0 K0
      by_cases hlt : k < n
      · obtain ⟨ab, ao, y0, y1, y2, y3, rfl, c0, c1, c2, c3⟩ := HAk.out k hlt
        have hp : (0 : Int) ≤ k := by omega
        go_upto_if 61 with fail
        generalize hwx : wr.alloc (Obj.cells #[Value.int IntKind.i64 y0, Value.int IntKind.i64 y1, Value.int IntKind.i64 y2, Value.int IntKind.i64 y3] 39) = wx
        obtain ⟨q, hq⟩ : ∃ q, q = wr.heap.size := ⟨_, rfl⟩
        rw [← hq]
        have hb : wx.heap[q]? = some (Obj.cells #[Value.int IntKind.i64 y0, Value.int IntKind.i64 y1, Value.int IntKind.i64 y2, Value.int IntKind.i64 y3] 39) := by rw [← hwx, hq]; exact heap_alloc_new wr _
        have kx : Keep (fun _ => False) wr wx := by rw [← hwx]; exact Keep.alloc _ _ _
        have HI' := Lib.hid (HI.out.keep kx (fun h => h))
        have HK' := Lib.hid (HK.out.trans kx)
        have hqb : Hid (b < q) := by rw [hq]; exact HI.out.lt
        have HQ := Lib.hid hb
        have d1 := cell_of hb 1
        have d2 := cell_of hb 2
        have d3 := cell_of hb 3
        simp at d1 d2 d3
        clear hwx hq hb kx HI HK c0 c1 c2 c3 HAk
        by_cases hz : y0 = 1
        · have hz1 : (y0 == 1) = true := by simpa using hz
          have HZ := Lib.hid hz
          clear hz
          go_wp2_with (go_at_call 13; refine (reset_ok _ _ x HX.out HI'.out).mono ?_; rintro e w2 ⟨rfl, hat2⟩; have HT2 := Lib.hid hat2; clear hat2)
          go_roundw
          case rel => exact ⟨k + 1, by omega, by go_num, x.reset, Win.ok_reset HX.out, HS.out, by simp [Win.reset], HT2.out.1, HK'.out.step HT2.out.2 (fun i hi => .inr (by have := HB.out; omega))⟩
          case measure => simp [intOf] <;> omega
        · have hz1 : (y0 == 1) = false := by simpa using hz
          have HZ := Lib.hid hz
          clear hz
          go_wp2_with fail
          refine (next_few _ _ x HX.out HV.out HI'.out y1 y2 y3).mono ?_
          rintro e w2 ⟨a2, m, p2, er, y, s, rfl, hy, hys, hyi, hyw, hyk, her, hm16, hms, hcell⟩
          have HY := Lib.hid hy
          have HYS := Lib.hid (hys.trans HS.out)
          have HYI := Lib.hid hyi
          have HYW := Lib.hid hyw
          have HYC := Lib.hid hcell
          have d2' : w2.cell? ⟨q, 2, none⟩ = some (.int .i64 y2) := by
            rw [World.cell?_of_block (w := wx) (hyk.block q (lt_of_block HQ.out) (by have := hqb.out; omega)), d2]
          have HYK := Lib.hid (HK'.out.step hyk (fun i hi => .inr (by have := HB.out; omega)))
          have l1 := hy.a1
          have l2 := hy.a2
          have l3 := hy.t2
          have l4 : y.sent ≤ y.ack + (1 + q0) := by rw [← HYS.out]; exact l3
          have hms' : (m : Int) ≤ 1 + q0 := by rw [← HS.out]; exact hms
          clear hy hys hyw hyk hcell l3 hms d1 d2 d3
          rcases her with rfl | ⟨rfl, hm0⟩
          all_goals try (have hm0' : m ≤ 0 := by omega)
          all_goals try clear hm0
          all_goals
            go_wp2_with (go_at_call 17; refine (open_ok _ _ y HY.out HYW.out).mono ?_; rintro e w3 ⟨rfl, rfl⟩)
            go_loop [101] (fun i => ∃ j : Nat, j ≤ m ∧ i = .int .i64 j) (fun i => m - (intOf i).toNat)
            case atStart => exact ⟨0, by omega, rfl⟩
            case round =>
              obtain ⟨j, hj, rfl⟩ := hrel
              by_cases hjm : j < m
              · try (exfalso; omega)
                all_goals
                  obtain ⟨g, rfl, hcj, t1, t2, t3, t4⟩ := HYC.out j hjm
                  have t5 : s + m ≤ y.ack + (1 + q0) := by rw [← HYS.out]; exact t2
                  have t6 : y.ack ≤ s + 1 + j - 1 := by omega
                  have hpj : (0 : Int) ≤ j := by omega
                  clear t2
                  by_cases hj0 : j = 0
                  · subst hj0
                    have hcj0 : w2.cell? ⟨g, 0, none⟩ = some (.int .i64 (s + 1)) := by simpa using hcj
                    have hm1 : (0 : Int) < m := by omega
                    clear hcj
                    go_wp2_with (go_at_call 15; refine (ack_ok _ _ y HY.out HYW.out).mono ?_; rintro e w3 ⟨rfl, rfl⟩)
                    go_round
                    case rel => exact ⟨1, by omega, by simp⟩
                    case measure => simp [intOf] <;> omega
                  · have hcp : w2.cell? ⟨g, j - 1, none⟩ = some (.int .i64 (s + j)) := by
                      obtain ⟨g', hg', hc', _⟩ := HYC.out (j - 1) (by omega)
                      simp only [Option.some.injEq, Addr.mk.injEq, and_true] at hg'
                      rw [hg', hc']
                      congr 2
                      omega
                    have hne : (s + 1 + (j : Int) != s + j + 1) = false := by simp; omega
                    have hj1 : 0 < j := by omega
                    go_wp2_with (go_at_call 15; refine (ack_ok _ _ y HY.out HYW.out).mono ?_; rintro e w3 ⟨rfl, rfl⟩)
                    go_round
                    case rel => exact ⟨j + 1, by omega, by go_num⟩
                    case measure => simp [intOf] <;> omega
              · go_wp2_with fail
                go_roundw
                case rel => exact ⟨k + 1, by omega, by go_num, y, HY.out, HYS.out, HYI.out, HYW.out, HYK.out⟩
                case measure => simp [intOf] <;> omega
      · go_wp2_with (go_at_call 11; refine (lives_ok _).mono ?_; rintro e w4 ⟨rfl, hk4⟩)
        go_ret
        rename_i hk4
        exact ⟨rfl, Keep.below (HK.out.trans hk4) (Nat.le_refl _) (fun _ h => h.elim)⟩
end Go.Proofs.Ytffkilfcphbbdaa
