/- What the closures do, and the methods that call them: Take, Drop, Twice. -/
import Derived.Test.YthcagpgdekhaeaaN7
namespace Go.Proofs.Ythcagpgdekhaeaa
open Go.RowKit
theorem new_at (w : World) (q : Nat) (cs : Array Value) (t : TypeId) (h : q = w.heap.size) : (w.alloc (.cells cs t)).heap[q]? = some (.cells cs t (0, 0)) := by subst h; exact heap_alloc_new w _
set_option maxHeartbeats 400000 in
theorem do26 (nb base : Nat) (most : Int) (v : Value) (ps : List Pk) (c0 c1 c2 c3 : Int) (i : Nat) (f : Int) (s : ByteArray) (b0 b1 : Nat) (w : World) (h : NetAt w nb base most v ps c0 c1 c2 c3) (hi : i < ps.length) (h64 : ps.length ≤ 64) (hc0 : 0 ≤ c1) (hc1 : c1 ≤ 1000000000)
    (hb0 : w.cell? ⟨b0, 0, none⟩ = some (.pointer (some ⟨nb, 0, none⟩))) (hb1 : w.cell? ⟨b1, 0, none⟩ = some (.int .i64 i)) :
    Calls Try.prog 26 #[.agg #[.int .i64 f, .string s], .pointer (some ⟨b0, 0, none⟩), .pointer (some ⟨b1, 0, none⟩)] w (DoPost nb base most v (ps.eraseIdx i) c0 (c1 + 1) c2 c3 0 w) := by
  have HO : Hid (∀ W, Keep (fun _ => False) w W → Calls Try.prog 27 #[.pointer (some ⟨nb, 0, none⟩), .int .i64 1, .int .i64 i] W fun e w' => ∃ v', e = .returned (.int .i64 0) ∧ NetAt w' nb base most v' (ps.eraseIdx i) c0 (c1 + 1) c2 c3 ∧ v'.ownBlock = v.ownBlock ∧ Keep (fun i => i = nb ∨ v.ownBlock = some i) W w') :=
    fun W k => out_taken nb base most v ps c0 c1 c2 c3 i W (h.keep0 k) hi h64 hc0 hc1
  have l0 : b0 < w.heap.size := World.block_lt_of_cell? w _ hb0
  have l1 : b1 < w.heap.size := World.block_lt_of_cell? w _ hb1
  clear h
  go_enter Try.func26, Try.ntmps26
  go_wp2_with (go_at_call 27; refine (HO.out _ (Keep.alloc _ _ _)).mono ?_; rintro e W2 ⟨v', rfl, hp⟩; have HP := Lib.hid hp; clear hp)
  go_ret
  show _ ∧ _
  exact ⟨rfl, v', HP.out.1, .inl HP.out.2.1, (Keep.alloc _ _ _).trans HP.out.2.2⟩

set_option maxHeartbeats 400000 in
theorem do37 (nb base : Nat) (most : Int) (v : Value) (ps : List Pk) (c0 c1 c2 c3 : Int) (i : Nat) (f : Int) (s : ByteArray) (b0 b1 : Nat) (w : World) (h : NetAt w nb base most v ps c0 c1 c2 c3) (hi : i < ps.length) (h64 : ps.length ≤ 64) (hc0 : 0 ≤ c2) (hc1 : c2 ≤ 1000000000)
    (hb0 : w.cell? ⟨b0, 0, none⟩ = some (.pointer (some ⟨nb, 0, none⟩))) (hb1 : w.cell? ⟨b1, 0, none⟩ = some (.int .i64 i)) :
    Calls Try.prog 37 #[.agg #[.int .i64 f, .string s], .pointer (some ⟨b0, 0, none⟩), .pointer (some ⟨b1, 0, none⟩)] w (DoPost nb base most v (ps.eraseIdx i) c0 c1 (c2 + 1) c3 0 w) := by
  have HO : Hid (∀ W, Keep (fun _ => False) w W → Calls Try.prog 27 #[.pointer (some ⟨nb, 0, none⟩), .int .i64 2, .int .i64 i] W fun e w' => ∃ v', e = .returned (.int .i64 0) ∧ NetAt w' nb base most v' (ps.eraseIdx i) c0 c1 (c2 + 1) c3 ∧ v'.ownBlock = v.ownBlock ∧ Keep (fun i => i = nb ∨ v.ownBlock = some i) W w') :=
    fun W k => out_dropped nb base most v ps c0 c1 c2 c3 i W (h.keep0 k) hi h64 hc0 hc1
  have l0 : b0 < w.heap.size := World.block_lt_of_cell? w _ hb0
  have l1 : b1 < w.heap.size := World.block_lt_of_cell? w _ hb1
  clear h
  go_enter Try.func37, Try.ntmps37
  go_wp2_with (go_at_call 27; refine (HO.out _ (Keep.alloc _ _ _)).mono ?_; rintro e W2 ⟨v', rfl, hp⟩; have HP := Lib.hid hp; clear hp)
  go_ret
  show _ ∧ _
  exact ⟨rfl, v', HP.out.1, .inl HP.out.2.1, (Keep.alloc _ _ _).trans HP.out.2.2⟩

set_option maxHeartbeats 400000 in
theorem do28_ok (nb base : Nat) (most : Int) (v : Value) (ps : List Pk) (c0 c1 c2 c3 : Int) (f : Int) (s : ByteArray) (b0 : Nat) (w : World) (h : NetAt w nb base most v ps c0 c1 c2 c3) (hr : (ps.length : Int) < most) (h64 : most ≤ 64) (hbase : base ≤ w.heap.size) (hc0 : 0 ≤ c3) (hc1 : c3 ≤ 1000000000)
    (hb0 : w.cell? ⟨b0, 0, none⟩ = some (.pointer (some ⟨nb, 0, none⟩))) :
    Calls Try.prog 28 #[.agg #[.int .i64 f, .string s], .pointer (some ⟨b0, 0, none⟩)] w (DoPost nb base most v (ps ++ [(f, s)]) c0 c1 c2 (c3 + 1) 0 w) := by
  have HO : Hid (∀ lb W, Keep (fun _ => False) w W → W.heap[lb]? = some (.cells #[.int .i64 f, .string s] 34 (0, 0)) → Calls Try.prog 24 #[.pointer (some ⟨nb, 0, none⟩), .int .i64 3, .slice (some ⟨lb, 0, none⟩) 1 1] W fun e w' => ∃ v', e = .returned (.int .i64 0) ∧ NetAt w' nb base most v' (ps ++ [(f, s)]) c0 c1 c2 (c3 + 1) ∧ Moved W v v' ∧ Keep (fun i => i = nb ∨ v.ownBlock = some i) W w') :=
    fun lb W k hl => put_doubled nb base most v ps c0 c1 c2 c3 lb 1 f s W (h.keep0 k) hl hr h64 (Nat.le_trans hbase k.size) hc0 hc1
  have l0 : b0 < w.heap.size := World.block_lt_of_cell? w _ hb0
  have HH := Lib.hid h
  clear h
  go_enter Try.func28, Try.ntmps28
  go_wp2_with fail
  with_reducible refine (HO.out _ _ ?ha ?hb).mono ?_
  case ha => exact (Keep.alloc _ _ _).allocR _
  case hb => exact new_at _ _ _ _ (by simp)
  rintro e W2 ⟨v', rfl, hp⟩
  have HP := Lib.hid hp
  clear hp
  go_wp2_with fail
  go_ret
  show _ ∧ _
  exact ⟨rfl, v', HP.out.1, HP.out.2.1.alloc.alloc, ((Keep.alloc _ _ _).allocR _).trans HP.out.2.2⟩
set_option maxHeartbeats 400000 in
theorem do28_full (nb base : Nat) (most : Int) (v : Value) (ps : List Pk) (c0 c1 c2 c3 : Int) (f : Int) (s : ByteArray) (b0 : Nat) (w : World) (h : NetAt w nb base most v ps c0 c1 c2 c3) (hr : most ≤ ps.length) (h64 : ps.length ≤ 64)
    (hb0 : w.cell? ⟨b0, 0, none⟩ = some (.pointer (some ⟨nb, 0, none⟩))) :
    Calls Try.prog 28 #[.agg #[.int .i64 f, .string s], .pointer (some ⟨b0, 0, none⟩)] w (DoPost nb base most v ps c0 c1 c2 c3 210 w) := by
  have HO : Hid (∀ lb W, Keep (fun _ => False) w W → W.heap[lb]? = some (.cells #[.int .i64 f, .string s] 34 (0, 0)) → Calls Try.prog 24 #[.pointer (some ⟨nb, 0, none⟩), .int .i64 3, .slice (some ⟨lb, 0, none⟩) 1 1] W fun e w' => e = .returned (.int .i64 210) ∧ Keep (fun _ => False) W w') :=
    fun lb W k _ => put_full 3 nb base most v ps c0 c1 c2 c3 lb 1 W (h.keep0 k) hr h64
  have l0 : b0 < w.heap.size := World.block_lt_of_cell? w _ hb0
  have HH := Lib.hid h
  clear h
  go_enter Try.func28, Try.ntmps28
  go_wp2_with fail
  with_reducible refine (HO.out _ _ ?ha ?hb).mono ?_
  case ha => exact (Keep.alloc _ _ _).allocR _
  case hb => exact new_at _ _ _ _ (by simp)
  rintro e W2 ⟨rfl, hp⟩
  have HP : Hid (Keep (fun _ => False) w W2) := (((Keep.alloc _ _ _).allocR _).trans hp)
  clear hp
  go_wp2_with fail
  go_ret
  show _ ∧ _
  exact ⟨rfl, v, HH.out.keep0 HP.out, .inl rfl, HP.out.mono (fun _ h => h.elim)⟩
end Go.Proofs.Ythcagpgdekhaeaa
