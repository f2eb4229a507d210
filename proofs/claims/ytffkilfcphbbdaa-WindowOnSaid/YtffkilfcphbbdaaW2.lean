import Derived.Test.YtffkilfcphbbdaaW1
namespace Go.Proofs.Ytffkilfcphbbdaa
open Go.RowKit
theorem isWin_ack {w : World} {b : Nat} {T : TypeId} {x : Win} (h : IsWin w b T x) (v : Int) : IsWin (w.setCell ⟨b, 2, none⟩ (.int .i64 v)) b T { x with ack := v } := heap_setCell_at h
theorem isWin_sent {w : World} {b : Nat} {T : TypeId} {x : Win} (h : IsWin w b T x) (v : Int) : IsWin (w.setCell ⟨b, 3, none⟩ (.int .i64 v)) b T { x with sent := v } := heap_setCell_at h
theorem isWin_time {w : World} {b : Nat} {T : TypeId} {x : Win} (h : IsWin w b T x) (v : Int) : IsWin (w.setCell ⟨b, 4, none⟩ (.int .i64 v)) b T { x with time := v } := heap_setCell_at h
theorem isWin_drewN {w : World} {b : Nat} {T : TypeId} {x : Win} (h : IsWin w b T x) (n : Nat) : IsWin (w.drewN n) b T x := h
/-- What the walk wants of a window's block. -/
theorem IsWin.cells {w : World} {b : Nat} {T : TypeId} {x : Win} (h : IsWin w b T x) :
    w.cell? ⟨b, 0, none⟩ = some (.int .i64 x.size) ∧ w.cell? ⟨b, 1, none⟩ = some (.int .i64 x.wait) ∧ w.cell? ⟨b, 2, none⟩ = some (.int .i64 x.ack) ∧
    w.cell? ⟨b, 3, none⟩ = some (.int .i64 x.sent) ∧ w.cell? ⟨b, 4, none⟩ = some (.int .i64 x.time) :=
  ⟨cell_of h 0, cell_of h 1, cell_of h 2, cell_of h 3, cell_of h 4⟩
theorem IsWin.free {w : World} {b : Nat} {T : TypeId} {x : Win} (h : IsWin w b T x) :
    w.frozen? ⟨b, 2, none⟩ = false ∧ w.frozen? ⟨b, 3, none⟩ = false ∧ w.frozen? ⟨b, 4, none⟩ = false :=
  ⟨free_of h 2, free_of h 3, free_of h 4⟩
def At (w : World) (b : Nat) (x : Win) (w' : World) : Prop := IsWin w' b 48 x ∧ Keep (· = b) w w'
theorem At.drewN {w w' : World} {b : Nat} {x : Win} (h : At w b x w') (n : Nat) : At w b x (w'.drewN n) := ⟨h.1, h.2.trans (Keep.drewN _ _ _)⟩
theorem At.ack {w w' : World} {b : Nat} {x : Win} (h : At w b x w') (v : Int) : At w b { x with ack := v } (w'.setCell ⟨b, 2, none⟩ (.int .i64 v)) := ⟨isWin_ack h.1 v, h.2.trans (Keep.setCell _ _ rfl)⟩
theorem At.sent {w w' : World} {b : Nat} {x : Win} (h : At w b x w') (v : Int) : At w b { x with sent := v } (w'.setCell ⟨b, 3, none⟩ (.int .i64 v)) := ⟨isWin_sent h.1 v, h.2.trans (Keep.setCell _ _ rfl)⟩
theorem At.time {w w' : World} {b : Nat} {x : Win} (h : At w b x w') (v : Int) : At w b { x with time := v } (w'.setCell ⟨b, 4, none⟩ (.int .i64 v)) := ⟨isWin_time h.1 v, h.2.trans (Keep.setCell _ _ rfl)⟩
theorem At.ack' {w w' : World} {b : Nat} {x : Win} (h : At w b x w') (u v : Int) (hq : u = v) : At w b { x with ack := u } (w'.setCell ⟨b, 2, none⟩ (.int .i64 v)) := hq ▸ h.ack v
theorem max_if (a b : Int) : (if a < b then b else a) = max a b := by omega
set_option maxRecDepth 100000 in
set_option maxHeartbeats 400000 in
theorem next_ok (w : World) (b : Nat) (x : Win) (hx : x.Ok) (hw : IsWin w b 48 x) (ack hav now : Int) (hg : Win.good ack hav now = true) :
    Calls Try.prog 9 #[.pointer (some ⟨b, 0, none⟩), .int .i64 ack, .int .i64 hav, .int .i64 now] w fun e w' => ∃ v,
      e = .returned (.tuple #[v, .int .i64 0]) ∧ IsWin w' b 48 (x.next ack hav now) ∧ w'.ownsRow w.heap.size 3 1 v (x.few ack hav now) ((x.out ack hav now).map (Value.int .i64)) ∧ Keep (· = b) w w' := by
  simp only [Win.good, decide_eq_true_eq] at hg
  obtain ⟨g1, g2, g3, g4, g5⟩ := hg
  obtain ⟨c0, c1, c2, c3, c4⟩ := hw.cells
  obtain ⟨f2, f3, f4⟩ := hw.free
  obtain ⟨i0, hi, hz0, hz1, hz2⟩ := info_parts Try.info3
  have HX := Lib.hid hx
  have HW := Lib.hid hw
  obtain ⟨h1, h2, h3, h4, h5, h6, h7, h8, h9, h10⟩ := hx
  clear hw
  go_enter Try.func9, Try.ntmps9
  go_wp2
  go_step3
  go_upto_region 5 with (go_at_call 18; refine (none_any _ _ x HX.out _ HW.out).mono ?_; rintro e w' ⟨rfl, rfl⟩)
  go_cut [] (fun wc => At w b { x with ack := x.ack1 ack } wc)
  case first =>
    go_wp2
    all_goals
      go_meet
      case rel => exact At.ack' ⟨HW.out, Keep.refl _ _⟩ _ _ (by unfold Win.ack1; omega)
  case rest =>
    have e1 : x.ack1 ack ≤ 1099511627776 ∧ 0 ≤ x.ack1 ack ∧ x.ack ≤ x.ack1 ack := by unfold Win.ack1; omega
    obtain ⟨e1, e2, e3⟩ := e1
    obtain ⟨y, hy⟩ : ∃ y, y = x.ack1 ack := ⟨_, rfl⟩
    rw [← hy] at hcut e1 e2 e3
    have HY := Lib.hid hy
    clear hy c0 c1 c2 c3 c4 f2 f3 f4
    have HC := Lib.hid hcut
    obtain ⟨c0, c1, c2, c3, c4⟩ := hcut.1.cells
    obtain ⟨f2, f3, f4⟩ := hcut.1.free
    clear hcut
    dsimp only at c0 c1 c2 c3 c4
    go_upto_region 6 with fail
    go_cut [64] (fun s64 wc => s64 = .bool (decide (x.sent < y ∨ x.wait ≤ now - x.time)) ∧ At w b { x with ack := y } wc)
    case first =>
      by_cases q1 : x.sent < y
      · go_quiet (fail)
        go_wp2
        go_meet
        case rel => exact ⟨by simp [q1], HC.out.drewN _⟩
      · have hd : decide (x.sent < y) = false := by simpa using q1
        go_quiet (fail)
        go_wp2
        go_meet
        case rel => exact ⟨by simp; intro _; omega, HC.out.drewN _⟩
    case rest =>
      obtain ⟨rfl, hcut⟩ := hcut
      have HC' := Lib.hid hcut
      clear HC c0 c1 c2 c3 c4 f2 f3 f4
      obtain ⟨c0, c1, c2, c3, c4⟩ := hcut.1.cells
      obtain ⟨f2, f3, f4⟩ := hcut.1.free
      clear hcut
      dsimp only at c0 c1 c2 c3 c4
      go_upto_if 64 with fail
      go_cut [] (fun wc => At w b { x with ack := y, sent := x.sent1 ack now } wc)
      case first =>
        go_wp2
        · go_meet
          case rel =>
            have q : x.sent1 ack now = y := by rw [HY.out]; unfold Win.sent1; rw [if_pos (by rw [← HY.out]; assumption)]
            rw [q]
            exact HC'.out.sent _
        · go_meet
          case rel =>
            have q : x.sent1 ack now = x.sent := by unfold Win.sent1; rw [if_neg (by rw [← HY.out]; omega)]
            rw [q]
            exact HC'.out
      case rest =>
      have HC := Lib.hid hcut
      clear HC' c0 c1 c2 c3 c4 f2 f3 f4
      obtain ⟨c0, c1, c2, c3, c4⟩ := hcut.1.cells
      obtain ⟨f2, f3, f4⟩ := hcut.1.free
      clear hcut
      dsimp only at c0 c1 c2 c3 c4
      have d1 : x.sent1 ack now ≤ y + x.size ∧ 0 ≤ x.sent1 ack now := by rw [HY.out]; unfold Win.sent1 Win.ack1; omega
      obtain ⟨d1, d2⟩ := d1
      have hfew : (x.few ack hav now : Int) = max 0 (min hav (y + x.size) - x.sent1 ack now) := by rw [HY.out]; unfold Win.few; omega
      obtain ⟨s, hs⟩ : ∃ s, s = x.sent1 ack now := ⟨_, rfl⟩
      rw [← hs] at HC c3 hfew d1 d2
      have HS := Lib.hid hs
      clear hs
      obtain ⟨few, hfw⟩ : ∃ f, f = x.few ack hav now := ⟨_, rfl⟩
      rw [← hfw] at hfew
      have HF := Lib.hid hfw
      have HE := Lib.hid hfew
      clear hfw hfew
      have HOK : Hid (Win.Ok { x with ack := y, sent := s }) := ⟨h1, h2, h3, h4, e2, e1, d2, d1, h9, h10⟩
      go_wp2
      go_step3
      go_upto_block 0 with fail
      go_cut [8] (fun v wc => At w b { x with ack := y, sent := s } wc ∧ wc.ownsRow w.heap.size 3 1 v few ((upTo s few).map (Value.int .i64)))
      case first =>
        go_wp2
        go_loopw [8, 11] (fun v i wr => ∃ k : Nat, k ≤ few ∧ i = .int .i64 (s + 1 + k) ∧ At w b { x with ack := y, sent := s } wr ∧ wr.ownsRow w.heap.size 3 1 v k ((upTo s k).map (Value.int .i64)))
          (fun _ i _ => (min hav (y + x.size) + 1 - intOf i).toNat)
        case atStart => exact ⟨0, by omega, by simp, HC.out, World.ownsRow_nil _ _ _ _⟩
        case round =>
          obtain ⟨k, hk, rfl, hat, hown⟩ := hrel
          have HA := Lib.hid hat
          have HO := Lib.hid hown
          clear hat hown
          go_wp2_with (first
            | (go_at_call 19; refine (may_any _ _ _ HOK.out _ _ HA.out.1).mono ?_; rintro e w' ⟨rfl, kk, rfl⟩)
            | (at_builtin; refine wpList_append_own _ rfl _ _ 27 rfl w.heap.size 3 i0 (.int .i64 0) 1 8 Try.underlying27 hi hz0 hz1 hz2 rfl (by decide) _ _ _ rfl ((show (wr.drewN kk).ownsRow _ _ _ _ _ _ from HO.out).alloc _) ⟨wr.heap.size, 0, none⟩ 1 1 [.int .i64 (s + 1 + k)] rfl rfl ?c1 ?c2 ?c3 ?c4 ?c5 ?_))
          case c1 => exact new1 _ _ rfl _ _
          case c2 => exact one1 rfl
          case c3 => have := HE.out; unfold maxLen; omega
          case c4 => have := HE.out; omega
          case c5 => have := HA.out.2.size; simp; omega
          · go_meet
            case rel =>
              have : k = few := by have := HE.out; omega
              subst this
              exact ⟨HA.out.drewN _, HO.out⟩
          · intro v' w1 hown' hg' _
            have hown0 : ((wr.drewN kk).alloc (Obj.cells #[Value.int IntKind.i64 (s + 1 + k)] 3)).ownsRow w.heap.size 3 1 u8 k ((upTo s k).map (Value.int .i64)) := (show (wr.drewN kk).ownsRow _ _ _ _ _ _ from HO.out).alloc _
            have hat' : At w b { x with ack := y, sent := s } w1 := by
              have h1 : Keep (· = b) w ((wr.drewN kk).alloc (Obj.cells #[Value.int IntKind.i64 (s + 1 + k)] 3)) := (HA.out.2.trans (Keep.drewN _ _ _)).trans (Keep.alloc _ _ _)
              refine ⟨?_, h1.own hown0 hg'⟩
              have h2 : IsWin ((wr.drewN kk).alloc (Obj.cells #[Value.int IntKind.i64 (s + 1 + k)] 3)) b 48 { x with ack := y, sent := s } := IsWin.keep HA.out.1 ((Keep.drewN (fun _ => False) _ kk).trans (Keep.alloc _ _ _)) (fun h => h)
              exact h2.keep (Keep.grown hg') (fun e => by have := (hown0.lt b e).1; have := HW.out.lt; omega)
            rw [← List.map_singleton, ← List.map_append, ← upTo_succ] at hown'
            have HA' := Lib.hid hat'
            have HO' := Lib.hid hown'
            have hk' : k < few := by have := HE.out; omega
            clear hown' hg' hown0 hat' HA HO
            go_wp2
            go_roundw
            case rel => exact ⟨k + 1, by omega, by go_num, HA'.out, HO'.out⟩
            case measure => simp [intOf]; omega
          · go_meet
            case rel =>
              have : k = few := by have := HE.out; omega
              subst this
              exact ⟨HA.out.drewN _, HO.out⟩
      case rest =>
        obtain ⟨hat, hown⟩ := hcut
        have HA := Lib.hid hat
        have HO := Lib.hid hown
        clear HC c0 c1 c2 c3 c4 f2 f3 f4
        have f3 := hat.1.free.2.1
        have f4 := hat.1.free.2.2
        have c3 := hat.1.cells.2.2.2.1
        have c4 := hat.1.cells.2.2.2.2
        dsimp only at c3 c4
        by_cases q : few = 0
        · subst q
          obtain ⟨av, cap, rfl, hcap, _⟩ := own_len hown
          clear hat hown
          go_wp2
          try rw [Exit.noGoto_ret]
          go_ret2
          refine ⟨_, rfl, ?_, ?_, HA.out.2⟩
          · have := HA.out.1
            unfold Win.next
            rw [if_pos HF.out.symm, ← HS.out, ← HY.out]
            exact this
          · rw [← HF.out]
            simpa [Win.out, ← HF.out, upTo] using HO.out
        · obtain ⟨g, cap, rfl, hbase, hcap, hmax⟩ := own_shape hown (by omega)
          have hc : wc.cell? ⟨g, few - 1, none⟩ = some (.int .i64 (s + few)) := by
            rw [hown.cellAt (few - 1) (by omega)]
            have : (few - 1) < (upTo s few).length := by rw [upTo_length]; omega
            rw [List.getElem?_map, List.getElem?_eq_getElem this]
            have h2 := upTo_getD s few (few - 1) (by omega)
            rw [List.getD_eq_getElem?_getD, List.getElem?_eq_getElem this] at h2
            simp at h2
            simp [h2]
            omega
          have h20 : 0 < few := by omega
          have h21 : (few : Int) ≤ 1099511627776 := by have := HE.out; omega
          clear hat hown q
          go_wp2
          try rw [Exit.noGoto_ret]
          go_ret2
          have h := (HA.out.sent (s + few)).time now
          refine ⟨_, rfl, ?_, ?_, h.2⟩
          · unfold Win.next
            rw [if_neg (by rw [← HF.out]; omega), ← HS.out, ← HY.out, ← HF.out]
            exact h.1
          · rw [← HF.out]
            unfold Win.out
            rw [← HS.out, ← HF.out]
            exact ownsRow_setCell_below (ownsRow_setCell_below HO.out HW.out.lt _) HW.out.lt _
set_option maxRecDepth 100000 in
set_option maxHeartbeats 400000 in
theorem next_bad (w : World) (b : Nat) (x : Win) (hx : x.Ok) (hw : IsWin w b 48 x) (ack hav now : Int) (hg : Win.good ack hav now = false) :
    Calls Try.prog 9 #[.pointer (some ⟨b, 0, none⟩), .int .i64 ack, .int .i64 hav, .int .i64 now] w fun e w' =>
      e = .returned (.tuple #[.slice none 0 0, .int .i64 2]) ∧ w = w' := by
  simp only [Win.good, decide_eq_false_iff_not] at hg
  have hg' : ack < 0 ∨ now < 0 ∨ hav < ack ∨ 1099511627776 < hav ∨ 1099511627776 < now := by omega
  clear hg
  have HX := Lib.hid hx
  have HW := Lib.hid hw
  clear hx hw
  rcases hg' with h | h | h | h | h
  all_goals
    go_enter Try.func9, Try.ntmps9
    go_wp2
    go_step3
    go_wp2_with (go_at_call 18; refine (none_any _ _ x HX.out _ HW.out).mono ?_; rintro e w' ⟨rfl, rfl⟩)
    all_goals
      try rw [Exit.noGoto_ret]
      go_ret2
      exact ⟨rfl, rfl⟩
set_option maxRecDepth 100000 in
set_option maxHeartbeats 400000 in
theorem next_nil (w : World) (ack hav now : Int) :
    Calls Try.prog 9 #[.pointer none, .int .i64 ack, .int .i64 hav, .int .i64 now] w fun e w' =>
      e = .returned (.tuple #[.slice none 0 0, .int .i64 1]) ∧ w = w' := by
  go_enter Try.func9, Try.ntmps9
  go_wp2
  go_step3
  go_wp2_with (go_at_call 18; refine (none_nil _).mono ?_; rintro e w' ⟨rfl, rfl⟩)
  try rw [Exit.noGoto_ret]
  go_ret2
  exact ⟨rfl, rfl⟩
set_option maxRecDepth 100000 in
set_option maxHeartbeats 400000 in
theorem next_zero (w : World) (b : Nat) (c1 c2 c3 c4 : Value) (T : TypeId) (h : w.heap[b]? = some (.cells #[.int .i64 0, c1, c2, c3, c4] T (0, 0))) (ack hav now : Int) :
    Calls Try.prog 9 #[.pointer (some ⟨b, 0, none⟩), .int .i64 ack, .int .i64 hav, .int .i64 now] w fun e w' =>
      e = .returned (.tuple #[.slice none 0 0, .int .i64 1]) ∧ w = w' := by
  have H := Lib.hid h
  clear h
  go_enter Try.func9, Try.ntmps9
  go_wp2
  go_step3
  go_wp2_with (go_at_call 18; refine (none_zero _ _ _ _ _ _ _ H.out).mono ?_; rintro e w' ⟨rfl, rfl⟩)
  try rw [Exit.noGoto_ret]
  go_ret2
  exact ⟨rfl, rfl⟩
set_option maxHeartbeats 400000 in
theorem reset_nil (w : World) :
    Calls Try.prog 13 #[.pointer none] w fun e w' => e = .returned (.int .i64 1) ∧ w = w' := by
  go_enter Try.func13, Try.ntmps13
  go_wp2_with (go_at_call 18; refine (none_nil _).mono ?_; rintro e w' ⟨rfl, rfl⟩)
  go_ret
  exact ⟨rfl, rfl⟩
set_option maxHeartbeats 400000 in
theorem reset_zero (w : World) (b : Nat) (c1 c2 c3 c4 : Value) (T : TypeId) (h : w.heap[b]? = some (.cells #[.int .i64 0, c1, c2, c3, c4] T (0, 0))) :
    Calls Try.prog 13 #[.pointer (some ⟨b, 0, none⟩)] w fun e w' => e = .returned (.int .i64 1) ∧ w = w' := by
  have H := Lib.hid h
  clear h
  go_enter Try.func13, Try.ntmps13
  go_wp2_with (go_at_call 18; refine (none_zero _ _ _ _ _ _ _ H.out).mono ?_; rintro e w' ⟨rfl, rfl⟩)
  go_ret
  exact ⟨rfl, rfl⟩
set_option maxHeartbeats 400000 in
theorem reset_ok (w : World) (b : Nat) (x : Win) (hx : x.Ok) (hw : IsWin w b 48 x) :
    Calls Try.prog 13 #[.pointer (some ⟨b, 0, none⟩)] w fun e w' => e = .returned (.int .i64 0) ∧ At w b x.reset w' := by
  obtain ⟨c0, c1, c2, c3, c4⟩ := hw.cells
  obtain ⟨f2, f3, f4⟩ := hw.free
  have HX := Lib.hid hx
  have HW := Lib.hid hw
  clear hx hw
  go_enter Try.func13, Try.ntmps13
  go_wp2_with (go_at_call 18; refine (none_any _ _ x HX.out _ HW.out).mono ?_; rintro e w' ⟨rfl, rfl⟩)
  go_ret
  exact ⟨rfl, At.sent ⟨HW.out, Keep.refl _ _⟩ _⟩
end Go.Proofs.Ytffkilfcphbbdaa
