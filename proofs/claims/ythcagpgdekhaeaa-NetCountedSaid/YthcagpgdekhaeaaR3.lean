/- The reference's Take (refused) and Drop, walked. -/
import Derived.Test.YthcagpgdekhaeaaR2
namespace Go.Proofs.Ythcagpgdekhaeaa
open Go.RowKit
set_option maxHeartbeats 2000000 in
theorem ref_take_bad (rb base : Nat) (most : Int) (v : Value) (ps : List Pk) (c0 c1 c2 c3 : Int) (i : Int) (w : World) (h : RefAt w rb base most v ps c0 c1 c2 c3) (hi : i < 0 ∨ (ps.length : Int) ≤ i) :
    Calls Try.prog 31 #[.pointer (some ⟨rb, 0, none⟩), .int .i64 i] w fun e w' => e = .returned (.tuple #[.agg #[.int .i64 0, .string ⟨#[]⟩], .int .i64 211]) ∧ Keep (fun _ => False) w w' := by
  have HL : Hid (∀ W, Keep (fun _ => False) w W → Calls Try.prog 35 #[.pointer (some ⟨rb, 0, none⟩), .int .i64 i] W fun e w' => e = .returned (.tuple #[.agg #[.int .i64 0, .string ⟨#[]⟩], .int .i64 211]) ∧ Keep (fun _ => False) W w') := fun W k => ref_look_bad rb base most v ps c0 c1 c2 c3 i W (h.keep0 k) hi
  clear h hi
  obtain ⟨r, hr⟩ : ∃ r, w.heap.size = r := ⟨_, rfl⟩
  have HR := Lib.hid hr
  go_enter Try.func31, Try.ntmps31
  go_wp2_with (go_at_call 35; refine (HL.out _ (Keep.alloc _ _ _)).mono ?_; rintro e W1 ⟨rfl, hk⟩; have K1 : Hid (Keep (fun _ => False) w W1) := (Keep.alloc _ _ _).trans hk; have A1 : Hid (W1.heap[r]? = some (.cells #[.int .i64 0, .string ⟨#[]⟩] 34 (0, 0))) := (by rw [← HR.out]; exact hk.heap (heap_alloc_new w _) (fun h => h)); clear hk; obtain ⟨q, hq⟩ : ∃ q, W1.heap.size = q := ⟨_, rfl⟩; have HQ := Lib.hid hq; have e4 : W1.cell? ⟨r, 0, none⟩ = some (.int .i64 0) := cell_of A1.out 0; have e5 : W1.cell? ⟨r, 1, none⟩ = some (.string ⟨#[]⟩) := cell_of A1.out 1; have e6 : W1.frozen? ⟨r, 0, none⟩ = false := free_of A1.out 0; have e7 : W1.frozen? ⟨r, 1, none⟩ = false := free_of A1.out 1; have n4 : r < q := (by have := lt_of_block A1.out; rw [HQ.out] at this; omega))
  refine bodyPost_ret (v := .tuple #[.agg #[.int .i64 0, .string ⟨#[]⟩], .int .i64 211]) (by simp [results, Try.results31, go_sem, e4, e5, hq, n4]) rfl ⟨rfl, ?_⟩
  exact ((K1.out.setNew (p := ⟨r, 0, none⟩) (by rw [HR.out]; exact Nat.le_refl _) _).setNew (p := ⟨r, 1, none⟩) (by rw [HR.out]; exact Nat.le_refl _) _).allocR _
set_option maxHeartbeats 2000000 in
theorem ref_drop_bad (rb base : Nat) (most : Int) (v : Value) (ps : List Pk) (c0 c1 c2 c3 : Int) (i : Int) (w : World) (h : RefAt w rb base most v ps c0 c1 c2 c3) (hi : i < 0 ∨ (ps.length : Int) ≤ i) :
    Calls Try.prog 32 #[.pointer (some ⟨rb, 0, none⟩), .int .i64 i] w fun e w' => e = .returned (.int .i64 211) ∧ Keep (fun _ => False) w w' := by
  have HL : Hid (∀ W, Keep (fun _ => False) w W → Calls Try.prog 35 #[.pointer (some ⟨rb, 0, none⟩), .int .i64 i] W fun e w' => e = .returned (.tuple #[.agg #[.int .i64 0, .string ⟨#[]⟩], .int .i64 211]) ∧ Keep (fun _ => False) W w') := fun W k => ref_look_bad rb base most v ps c0 c1 c2 c3 i W (h.keep0 k) hi
  clear h hi
  go_enter Try.func32, Try.ntmps32
  go_wp2_with (go_at_call 35; refine (HL.out _ (Keep.refl _ _)).mono ?_; rintro e W1 ⟨rfl, hk⟩; have K1 := Lib.hid hk; clear hk; obtain ⟨q, hq⟩ : ∃ q, W1.heap.size = q := ⟨_, rfl⟩)
  exact bodyPost_ret (v := .int .i64 211) (by simp [results, Try.results32, go_sem]) rfl ⟨rfl, K1.out.allocR _⟩
set_option maxHeartbeats 2000000 in
theorem ref_drop_ok (rb base : Nat) (most : Int) (v : Value) (ps : List Pk) (c0 c1 c2 c3 : Int) (i : Nat) (f : Int) (s : ByteArray) (w : World) (h : RefAt w rb base most v ps c0 c1 c2 c3) (hi : ps[i]? = some (f, s)) (h64 : ps.length ≤ 64) (hb : base ≤ w.heap.size) (hc0 : 0 ≤ c2) (hc1 : c2 ≤ 1000000000) :
    Calls Try.prog 32 #[.pointer (some ⟨rb, 0, none⟩), .int .i64 i] w fun e w' => e = .returned (.int .i64 0) ∧ RefPost rb base most v (ps.eraseIdx i) c0 c1 (c2 + 1) c3 w w' := by
  have HL : Hid (∀ W, Keep (fun _ => False) w W → Calls Try.prog 35 #[.pointer (some ⟨rb, 0, none⟩), .int .i64 i] W fun e w' => e = .returned (.tuple #[.agg #[.int .i64 f, .string s], .int .i64 0]) ∧ Keep (fun _ => False) W w') := fun W k => ref_look_ok rb base most v ps c0 c1 c2 c3 i f s W (h.keep0 k) hi
  have HO : Hid (∀ W, Keep (fun _ => False) w W → Calls Try.prog 39 #[.pointer (some ⟨rb, 0, none⟩), .int .i64 i] W fun e w' => e = .returned (.tuple #[]) ∧ RefPost rb base most v (ps.eraseIdx i) c0 c1 c2 c3 W w') := fun W k => ref_out rb base most v ps c0 c1 c2 c3 i W (h.keep0 k) h64 (Nat.le_trans hb k.size)
  have HNB : Hid (rb < w.heap.size ∧ ∀ g, v.ownBlock = some g → g < w.heap.size) := ⟨lt_of_block h.block, fun g hg => (h.row.lt g hg).2⟩
  clear h hi
  go_enter Try.func32, Try.ntmps32
  go_wp2_with (go_at_call 35; refine (HL.out _ (Keep.refl _ _)).mono ?_; rintro e W1 ⟨rfl, hk⟩; have K1 := Lib.hid hk; clear hk; obtain ⟨q, hq⟩ : ∃ q, W1.heap.size = q := ⟨_, rfl⟩; have HQ := Lib.hid hq)
  with_reducible refine (HO.out _ ?ha).mono ?_
  case ha => exact K1.out.allocR _
  rintro e W2 ⟨rfl, hp⟩
  have HP := Lib.hid hp
  obtain ⟨v', hv'⟩ := hp.block
  have e0 : W2.cell? ⟨rb, 4, none⟩ = some (.int .i64 c2) := cell_of hv' 4
  have e1 : W2.frozen? ⟨rb, 4, none⟩ = false := free_of hv' 4
  clear hp hv'
  go_wp2_with fail
  go_still_tail 10, (by kernel_rfl)
  go_wp2_with fail
  refine bodyPost_ret (v := .int .i64 0) (by simp [results, Try.results32, go_sem]) rfl ⟨rfl, ?_⟩
  refine RefPost.drew ?_
  exact RefPost.keepR (K1.out.allocR _) (HP.out.count2 (c2 + 1)) (Keep.refl _ _)
end Go.Proofs.Ythcagpgdekhaeaa
