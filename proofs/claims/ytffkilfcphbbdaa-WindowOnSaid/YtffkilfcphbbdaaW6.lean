/- The reference's Next, walked at numbers that are taken. -/
import Derived.Test.YtffkilfcphbbdaaW5
namespace Go.Proofs.Ytffkilfcphbbdaa
open Go.RowKit
set_option maxRecDepth 100000 in
set_option maxHeartbeats 1000000 in
theorem rnext_ok (w : World) (b : Nat) (x : Win) (hx : x.Ok) (hw : IsWin w b 42 x) (ack hav now : Int) (hg : Win.good ack hav now = true) :
    Calls Try.prog 14 #[.pointer (some ⟨b, 0, none⟩), .int .i64 ack, .int .i64 hav, .int .i64 now] w fun e w' => ∃ v,
      e = .returned (.tuple #[v, .int .i64 0]) ∧ IsWin w' b 42 (x.next ack hav now) ∧ w'.ownsRow w.heap.size 3 1 v (x.few ack hav now) ((x.out ack hav now).map (Value.int .i64)) ∧ Keep (· = b) w w' := by
  simp only [Win.good, decide_eq_true_eq] at hg
  obtain ⟨g1, g2, g3, g4, g5⟩ := hg
  obtain ⟨c0, c1, c2, c3, c4⟩ := hw.cells
  obtain ⟨f2, f3, f4⟩ := hw.free
  obtain ⟨i0, hi, hz0, hz1, hz2⟩ := info_parts Try.info3
  have HX := Lib.hid hx
  have HW := Lib.hid hw
  obtain ⟨h1, h2, h3, h4, h5, h6, h7, h8, h9, h10⟩ := hx
  clear hw
  go_enter Try.func14, Try.ntmps14
  go_upto_region 3 with fail
  go_cut [] (fun wc => RAt w b { x with ack := x.ack1 ack } wc)
  case first =>
    go_wp2
    all_goals
      go_meet
      case rel => exact RAt.ack ⟨HW.out, Keep.refl _ _⟩ _ _ (by unfold Win.ack1; omega)
  case rest =>
    have e1 : x.ack1 ack ≤ 1099511627776 ∧ 0 ≤ x.ack1 ack ∧ x.ack ≤ x.ack1 ack := by unfold Win.ack1; omega
    obtain ⟨e1, e2, e3⟩ := e1
    obtain ⟨y, hy⟩ : ∃ y, y = x.ack1 ack := ⟨_, rfl⟩
    rw [← hy] at hcut e1 e2 e3
    have HY := Lib.hid hy
    clear hy c0 c1 c2 c3 c4 f2 f3 f4
    have HC := Lib.hid hcut
    obtain ⟨c0, c1, c2, c3, c4⟩ := hcut.1.cells
    obtain ⟨f2, f3, f4⟩ := hcut.1.free
    clear hcut
    dsimp only at c0 c1 c2 c3 c4
    go_upto_region 4 with fail
    go_cut [] (fun wc => RAt w b { x with ack := y, sent := max x.sent y } wc)
    case first =>
      go_still_tail 12, (by kernel_rfl)
      go_wp2
      all_goals
        go_meet
        case rel => exact RAt.sent (HC.out.drewN 1) _ _ (by omega)
    case rest =>
      have HC' := Lib.hid hcut
      clear HC c0 c1 c2 c3 c4 f2 f3 f4
      obtain ⟨c0, c1, c2, c3, c4⟩ := hcut.1.cells
      obtain ⟨f2, f3, f4⟩ := hcut.1.free
      clear hcut
      dsimp only at c0 c1 c2 c3 c4
      have m1 : y ≤ max x.sent y ∧ max x.sent y ≤ y + x.size := by omega
      obtain ⟨m1, m2⟩ := m1
      have hmax : max x.sent y = x.sent ∨ max x.sent y = y := by omega
      obtain ⟨m, hm⟩ : ∃ m, m = max x.sent y := ⟨_, rfl⟩
      rw [← hm] at HC' c3 m1 m2 hmax
      have HM := Lib.hid hm
      have HMX := Lib.hid hmax
      clear hm hmax
      go_upto_region 5 with fail
      go_cut [77] (fun s77 wc => s77 = .bool (decide (y < m ∧ x.time + x.wait ≤ now)) ∧ RAt w b { x with ack := y, sent := m } wc)
      case first =>
        by_cases q1 : y < m
        · go_quiet (fail)
          go_wp2
          go_meet
          case rel => exact ⟨by simp; intro _; omega, HC'.out.drewN _⟩
        · have hd : decide (y < m) = false := by simpa using q1
          go_quiet (fail)
          go_wp2
          go_meet
          case rel => exact ⟨by simp; intro _; omega, HC'.out.drewN _⟩
      case rest =>
      obtain ⟨rfl, hcut⟩ := hcut
      have HC := Lib.hid hcut
      clear HC' c0 c1 c2 c3 c4 f2 f3 f4
      obtain ⟨c0, c1, c2, c3, c4⟩ := hcut.1.cells
      obtain ⟨f2, f3, f4⟩ := hcut.1.free
      clear hcut
      dsimp only at c0 c1 c2 c3 c4
      go_upto_if 77 with fail
      go_cut [] (fun wc => RAt w b { x with ack := y, sent := x.sent1 ack now } wc)
      case first =>
        have hq1 : y < m ∧ x.time + x.wait ≤ now → x.sent1 ack now = y := by
          intro h; have := HM.out; unfold Win.sent1; rw [← HY.out]; omega
        have hq2 : ¬ (y < m ∧ x.time + x.wait ≤ now) → x.sent1 ack now = m := by
          intro h; have := HM.out; unfold Win.sent1; rw [← HY.out]; omega
        have Q1 := Lib.hid hq1
        have Q2 := Lib.hid hq2
        clear hq1 hq2
        by_cases q : y < m ∧ x.time + x.wait ≤ now
        · go_wp2
          go_meet
          case rel => exact HC.out.sent _ _ (Q1.out q)
        · have hd : decide (y < m ∧ x.time + x.wait ≤ now) = false := by simpa using q
          go_wp2
          go_meet
          case rel => rw [Q2.out q]; exact HC.out
      case rest =>
      have HC' := Lib.hid hcut
      clear HC c0 c1 c2 c3 c4 f2 f3 f4
      obtain ⟨c0, c1, c2, c3, c4⟩ := hcut.1.cells
      clear hcut
      dsimp only at c0 c1 c2 c3 c4
      have d1 : x.sent1 ack now ≤ y + x.size ∧ 0 ≤ x.sent1 ack now := by rw [HY.out]; unfold Win.sent1 Win.ack1; omega
      obtain ⟨d1, d2⟩ := d1
      have hfew : (x.few ack hav now : Int) = max 0 (min hav (y + x.size) - x.sent1 ack now) := by rw [HY.out]; unfold Win.few; omega
      obtain ⟨s, hs⟩ : ∃ s, s = x.sent1 ack now := ⟨_, rfl⟩
      rw [← hs] at HC' c3 hfew d1 d2
      have HS := Lib.hid hs
      clear hs
      obtain ⟨few, hfw⟩ : ∃ f, f = x.few ack hav now := ⟨_, rfl⟩
      rw [← hfw] at hfew
      have HF := Lib.hid hfw
      have HE := Lib.hid hfew
      clear hfw hfew m1 m2
      go_upto_block 0 with fail
      go_cut [10] (fun v wc => RAt w b { x with ack := y, sent := s } wc ∧ wc.ownsRow w.heap.size 3 1 v few ((upTo s few).map (Value.int .i64)))
      case first =>
        go_wp2
        go_loopw [10, 11] (fun v i wr => ∃ k : Nat, k ≤ few ∧ i = .int .i64 (s + 1 + k) ∧ RAt w b { x with ack := y, sent := s } wr ∧ wr.ownsRow w.heap.size 3 1 v k ((upTo s k).map (Value.int .i64)))
          (fun _ i _ => (min hav (y + x.size) + 1 - intOf i).toNat)
        case atStart => exact ⟨0, by omega, by simp, HC'.out, World.ownsRow_nil _ _ _ _⟩
        case round =>
          obtain ⟨k, hk, rfl, hat, hown⟩ := hrel
          have HA := Lib.hid hat
          have HO := Lib.hid hown
          clear c0 c1 c2 c3 c4
          obtain ⟨c0, c1, c2, c3, c4⟩ := hat.1.cells
          dsimp only at c0 c1 c2 c3 c4
          clear hat hown
          by_cases hlt : k < few
          · have q1 : s + 1 + k ≤ hav := by have := HE.out; omega
            have q2 : s + 1 + k ≤ y + x.size := by have := HE.out; omega
            go_wp2
            go_quiet (fail)
            go_wp2_with (at_builtin; refine wpList_append_own _ rfl _ _ 27 rfl w.heap.size 3 i0 (.int .i64 0) 1 8 Try.underlying27 hi hz0 hz1 hz2 rfl (by decide) _ _ _ rfl ((show (wr.drewN nq).ownsRow _ _ _ _ _ _ from HO.out).alloc _) ⟨wr.heap.size, 0, none⟩ 1 1 [.int .i64 (s + 1 + k)] rfl rfl ?c1 ?c2 ?c3 ?c4 ?c5 ?_)
            case c1 => exact new1 _ _ rfl _ _
            case c2 => exact one1 rfl
            case c3 => have := HE.out; unfold maxLen; omega
            case c4 => have := HE.out; omega
            case c5 => have := HA.out.2.size; simp; omega
            intro v' w1 hown' hg' _
            have hown0 : ((wr.drewN nq).alloc (Obj.cells #[Value.int IntKind.i64 (s + 1 + k)] 3)).ownsRow w.heap.size 3 1 u10 k ((upTo s k).map (Value.int .i64)) := (show (wr.drewN nq).ownsRow _ _ _ _ _ _ from HO.out).alloc _
            have hat' : RAt w b { x with ack := y, sent := s } w1 := by
              have h1 : Keep (· = b) w ((wr.drewN nq).alloc (Obj.cells #[Value.int IntKind.i64 (s + 1 + k)] 3)) := (HA.out.2.trans (Keep.drewN _ _ _)).trans (Keep.alloc _ _ _)
              refine ⟨?_, h1.own hown0 hg'⟩
              have h2 : IsWin ((wr.drewN nq).alloc (Obj.cells #[Value.int IntKind.i64 (s + 1 + k)] 3)) b 42 { x with ack := y, sent := s } := IsWin.keep HA.out.1 ((Keep.drewN (fun _ => False) _ nq).trans (Keep.alloc _ _ _)) (fun h => h)
              exact h2.keep (Keep.grown hg') (fun e => by have := (hown0.lt b e).1; have := HW.out.lt; omega)
            rw [← List.map_singleton, ← List.map_append, ← upTo_succ] at hown'
            have HA' := Lib.hid hat'
            have HO' := Lib.hid hown'
            clear hown' hg' hown0 hat' HA HO c0 c1 c2 c3 c4
            go_wp2
            go_roundw
            case rel => exact ⟨k + 1, by omega, by go_num, HA'.out, HO'.out⟩
            case measure => simp [intOf]; omega
          · obtain rfl : k = few := by omega
            by_cases q1 : s + 1 + k ≤ hav
            · have q2 : y + x.size < s + 1 + k := by have := HE.out; omega
              go_wp2
              go_quiet (fail)
              go_wp2
              go_meet
              case rel => exact ⟨HA.out.drewN _, HO.out⟩
            · have hd : decide (s + 1 + (k : Int) ≤ hav) = false := by simpa using q1
              go_wp2
              go_quiet (fail)
              go_wp2
              go_meet
              case rel => exact ⟨HA.out.drewN _, HO.out⟩
      case rest =>
        obtain ⟨hat, hown⟩ := hcut
        have HA := Lib.hid hat
        have HO := Lib.hid hown
        clear HC' c0 c1 c2 c3 c4
        have f3 := hat.1.free.2.1
        have f4 := hat.1.free.2.2
        have c3 := hat.1.cells.2.2.2.1
        have c4 := hat.1.cells.2.2.2.2
        dsimp only at c3 c4
        by_cases q : few = 0
        · subst q
          obtain ⟨av, cap, rfl, hcap, _⟩ := own_len hown
          clear hat hown
          go_wp2
          go_ret2
          refine ⟨_, rfl, ?_, ?_, HA.out.2⟩
          · have := HA.out.1
            unfold Win.next
            rw [if_pos HF.out.symm, ← HS.out, ← HY.out]
            exact this
          · rw [← HF.out]
            simpa [Win.out, ← HF.out, upTo] using HO.out
        · obtain ⟨g, cap, rfl, hbase, hcap, hmax⟩ := own_shape hown (by omega)
          have hc : wc.cell? ⟨g, few - 1, none⟩ = some (.int .i64 (s + few)) := by
            rw [hown.cellAt (few - 1) (by omega)]
            have : (few - 1) < (upTo s few).length := by rw [upTo_length]; omega
            rw [List.getElem?_map, List.getElem?_eq_getElem this]
            have h2 := upTo_getD s few (few - 1) (by omega)
            rw [List.getD_eq_getElem?_getD, List.getElem?_eq_getElem this] at h2
            simp at h2
            simp [h2]
            omega
          have h20 : 0 < few := by omega
          have h21 : (few : Int) ≤ 1099511627776 := by have := HE.out; omega
          clear hat hown q
          go_wp2
          go_ret2
          have h := (HA.out.sent (s + few) (s + few) rfl).time now
          refine ⟨_, rfl, ?_, ?_, h.2⟩
          · unfold Win.next
            rw [if_neg (by rw [← HF.out]; omega), ← HS.out, ← HY.out, ← HF.out]
            exact h.1
          · rw [← HF.out]
            unfold Win.out
            rw [← HS.out, ← HF.out]
            exact ownsRow_setCell_below (ownsRow_setCell_below HO.out HW.out.lt _) HW.out.lt _
end Go.Proofs.Ytffkilfcphbbdaa
