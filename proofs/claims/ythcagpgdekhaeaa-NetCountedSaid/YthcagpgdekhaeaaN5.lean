/- Look, walked. -/
import Derived.Test.YthcagpgdekhaeaaN4
namespace Go.Proofs.Ythcagpgdekhaeaa
open Go.RowKit
theorem Nobody.keep {w w' : World} {v : Value} (h : Nobody w v) (k : Keep (fun _ => False) w w') : Nobody w' v := by
  rcases h with rfl | ⟨nb, rfl, h⟩
  · exact .inl rfl
  · exact .inr ⟨nb, rfl, (k.rules.1 nb 0 (World.block_lt_of_cell? w _ h)).trans h⟩
set_option maxHeartbeats 400000 in
theorem look_nobody {v : Value} (i : Int) (w : World) (h : Nobody w v) : Calls Try.prog 16 #[v, .int .i64 i] w fun e w' => e = .returned (.tuple #[.agg #[.int .i64 0, .string ⟨#[]⟩], .int .i64 1]) ∧ Keep (fun _ => False) w w' := by
  have H : Hid (∀ W : World, Keep (fun _ => False) w W → Calls Try.prog 23 #[v] W fun e w' => e = .returned (.bool true) ∧ w' = W) := fun W k => none_nobody W (h.keep k)
  clear h
  go_enter Try.func16, Try.ntmps16
  go_wp2_with (go_at_call 23; refine (H.out _ (Keep.alloc _ _ _)).mono ?_; rintro e w' ⟨rfl, rfl⟩)
  exact bodyPost_ret (v := .tuple #[.agg #[.int .i64 0, .string ⟨#[]⟩], .int .i64 1]) (by simp [results, Try.results16, go_sem]) rfl ⟨rfl, Keep.alloc _ _ _⟩
set_option maxHeartbeats 400000 in
theorem look_bad (nb base : Nat) (most : Int) (v : Value) (ps : List Pk) (c0 c1 c2 c3 : Int) (i : Int) (w : World) (h : NetAt w nb base most v ps c0 c1 c2 c3) (hm : 1 ≤ most) (hi : i < 0 ∨ (ps.length : Int) ≤ i) (h64 : ps.length ≤ 64) :
    Calls Try.prog 16 #[.pointer (some ⟨nb, 0, none⟩), .int .i64 i] w fun e w' => e = .returned (.tuple #[.agg #[.int .i64 0, .string ⟨#[]⟩], .int .i64 211]) ∧ Keep (fun _ => False) w w' := by
  have HN : Hid (∀ W : World, Keep (fun _ => False) w W → Calls Try.prog 23 #[.pointer (some ⟨nb, 0, none⟩)] W fun e w' => e = .returned (.bool false) ∧ w' = W) := fun W k => none_at nb most W (h.keep0 k).cells.1 (beq_eq_false_iff_ne.2 (by omega))
  have hnb : nb < w.heap.size := lt_of_block h.block
  obtain ⟨a, cp, rfl, h1, h2⟩ := h.slice
  have d1 := h.cells.2.1
  clear h
  unfold maxLen at h2
  generalize ps.length = n at *
  rcases hi with hi | hi
  · go_enter Try.func16, Try.ntmps16
    go_wp2_with (go_at_call 23; refine (HN.out _ (Keep.alloc _ _ _)).mono ?_; rintro e w' ⟨rfl, rfl⟩)
    exact bodyPost_ret (v := .tuple #[.agg #[.int .i64 0, .string ⟨#[]⟩], .int .i64 211]) (by simp [results, Try.results16, go_sem]) rfl ⟨rfl, Keep.alloc _ _ _⟩
  · have h0 : ¬ i < 0 := by omega
    go_enter Try.func16, Try.ntmps16
    go_wp2_with (go_at_call 23; refine (HN.out _ (Keep.alloc _ _ _)).mono ?_; rintro e w' ⟨rfl, rfl⟩)
    exact bodyPost_ret (v := .tuple #[.agg #[.int .i64 0, .string ⟨#[]⟩], .int .i64 211]) (by simp [results, Try.results16, go_sem]) rfl ⟨rfl, Keep.alloc _ _ _⟩
set_option maxHeartbeats 400000 in
theorem look_at (nb base : Nat) (most : Int) (v : Value) (ps : List Pk) (c0 c1 c2 c3 : Int) (i : Nat) (f : Int) (s : ByteArray) (w : World) (h : NetAt w nb base most v ps c0 c1 c2 c3) (hm : 1 ≤ most) (hi : ps[i]? = some (f, s)) :
    Calls Try.prog 16 #[.pointer (some ⟨nb, 0, none⟩), .int .i64 i] w fun e w' => e = .returned (.tuple #[.agg #[.int .i64 f, .string s], .int .i64 0]) ∧ Keep (fun _ => False) w w' := by
  have HN : Hid (∀ W : World, Keep (fun _ => False) w W → Calls Try.prog 23 #[.pointer (some ⟨nb, 0, none⟩)] W fun e w' => e = .returned (.bool false) ∧ w' = W) := fun W k => none_at nb most W (h.keep0 k).cells.1 (beq_eq_false_iff_ne.2 (by omega))
  have hnb : nb < w.heap.size := lt_of_block h.block
  have hlt : i < ps.length := (List.getElem?_eq_some_iff.1 hi).1
  obtain ⟨a, cp, rfl, h1, h2⟩ := h.slice
  have d1 := h.cells.2.1
  obtain ⟨g, rfl, _, hg, p0, p1, _, _⟩ := h.packet i (f, s) hi
  dsimp only at p0 p1
  have hgl : g < w.heap.size := World.block_lt_of_cell? w _ p0
  clear h hi hg
  unfold maxLen at h2
  generalize ps.length = n at *
  go_enter Try.func16, Try.ntmps16
  go_wp2_with (go_at_call 23; refine (HN.out _ (Keep.alloc _ _ _)).mono ?_; rintro e w' ⟨rfl, rfl⟩)
  exact bodyPost_ret (v := .tuple #[.agg #[.int .i64 f, .string s], .int .i64 0]) (by simp [results, Try.results16, go_sem]) rfl ⟨rfl, Keep.alloc _ _ _⟩
end Go.Proofs.Ythcagpgdekhaeaa
