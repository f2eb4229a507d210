/- The reference's Take and Drop, walked. -/
import Derived.Test.YthcagpgdekhaeaaR1
import Derived.StillTailTactics
namespace Go.Proofs.Ythcagpgdekhaeaa
open Go.RowKit
theorem ownsRow_far {w : World} {base : Nat} {e : TypeId} {size : Nat} {v : Value} {n : Nat} {xs : List Value} (h : w.ownsRow base e size v n xs) {t : Nat} (ht : v.ownBlock ≠ some t) {p : Addr} (hp : p.block = t) (u : Value) : (w.setCell p u).ownsRow base e size v n xs :=
  ownsRow_keep' h (Keep.setCell (S := fun j => j = t) w u hp) (fun _ hi e => ht (e ▸ hi))
theorem RefPost.count0 {rb base : Nat} {most : Int} {v : Value} {ps : List Pk} {c0 c1 c2 c3 : Int} {w w' : World} (h : RefPost rb base most v ps c0 c1 c2 c3 w w') (x : Int) : RefPost rb base most v ps x c1 c2 c3 w (w'.setCell ⟨rb, 2, none⟩ (.int .i64 x)) := by
  obtain ⟨v', h1, h2, h3⟩ := h
  exact ⟨v', ⟨heap_setCell_at h1.block, ownsRow_far h1.row h1.not rfl _⟩, h2, h3.trans (Keep.setCell _ _ rfl)⟩
theorem RefPost.count1 {rb base : Nat} {most : Int} {v : Value} {ps : List Pk} {c0 c1 c2 c3 : Int} {w w' : World} (h : RefPost rb base most v ps c0 c1 c2 c3 w w') (x : Int) : RefPost rb base most v ps c0 x c2 c3 w (w'.setCell ⟨rb, 3, none⟩ (.int .i64 x)) := by
  obtain ⟨v', h1, h2, h3⟩ := h
  exact ⟨v', ⟨heap_setCell_at h1.block, ownsRow_far h1.row h1.not rfl _⟩, h2, h3.trans (Keep.setCell _ _ rfl)⟩
theorem RefPost.count2 {rb base : Nat} {most : Int} {v : Value} {ps : List Pk} {c0 c1 c2 c3 : Int} {w w' : World} (h : RefPost rb base most v ps c0 c1 c2 c3 w w') (x : Int) : RefPost rb base most v ps c0 c1 x c3 w (w'.setCell ⟨rb, 4, none⟩ (.int .i64 x)) := by
  obtain ⟨v', h1, h2, h3⟩ := h
  exact ⟨v', ⟨heap_setCell_at h1.block, ownsRow_far h1.row h1.not rfl _⟩, h2, h3.trans (Keep.setCell _ _ rfl)⟩
theorem RefPost.count3 {rb base : Nat} {most : Int} {v : Value} {ps : List Pk} {c0 c1 c2 c3 : Int} {w w' : World} (h : RefPost rb base most v ps c0 c1 c2 c3 w w') (x : Int) : RefPost rb base most v ps c0 c1 c2 x w (w'.setCell ⟨rb, 5, none⟩ (.int .i64 x)) := by
  obtain ⟨v', h1, h2, h3⟩ := h
  exact ⟨v', ⟨heap_setCell_at h1.block, ownsRow_far h1.row h1.not rfl _⟩, h2, h3.trans (Keep.setCell _ _ rfl)⟩
theorem RefPost.keepR {rb base : Nat} {most : Int} {v : Value} {ps : List Pk} {c0 c1 c2 c3 : Int} {w X W W3 : World} (k : Keep (fun _ => False) w X) (h : RefPost rb base most v ps c0 c1 c2 c3 X W) (k3 : Keep (fun _ => False) W W3) : RefPost rb base most v ps c0 c1 c2 c3 w W3 := by
  obtain ⟨v', h1, h2, h3⟩ := h
  exact ⟨v', h1.keep0 k3, fun g hg => (h2 g hg).imp id (fun h => Nat.le_trans k.size h), ((k.mono (fun _ h => h.elim)).trans h3).trans (k3.mono (fun _ h => h.elim))⟩
theorem RefPost.store {rb base : Nat} {most : Int} {v : Value} {ps : List Pk} {c0 c1 c2 c3 : Int} {r t : Nat} {a b : Value} {w X W : World} (h : RefPost rb base most v ps c0 c1 c2 c3 X W) (hnb : rb < r ∧ ∀ g, v.ownBlock = some g → g < r) (hr : w.heap.size = r) (k : Keep (fun _ => False) w X) (ht : r ≤ t) (htx : t < X.heap.size) :
    RefPost rb base most v ps c0 c1 c2 c3 w ((W.setCell ⟨t, 0, none⟩ a).setCell ⟨t, 1, none⟩ b) := by
  obtain ⟨v', h1, h2, h3⟩ := h
  have K : Keep (fun i => i = t) W ((W.setCell ⟨t, 0, none⟩ a).setCell ⟨t, 1, none⟩ b) := Keep.two _ _ rfl rfl
  refine ⟨v', h1.keep K (by omega) (fun g hg e => ?_), fun g hg => (h2 g hg).imp id (fun h => Nat.le_trans k.size h), ?_⟩
  · subst e
    rcases h2 g hg with h | h
    · have := hnb.2 g h; omega
    · omega
  · have h4 : Keep (fun i => i = rb) w W := (k.mono (fun _ h => h.elim)).trans h3
    exact h4.step K (fun i hi => .inr (by omega))
theorem RefPost.drew {rb base : Nat} {most : Int} {v : Value} {ps : List Pk} {c0 c1 c2 c3 : Int} {w W : World} (h : RefPost rb base most v ps c0 c1 c2 c3 w W) : RefPost rb base most v ps c0 c1 c2 c3 w W.drew := RefPost.keepR (Keep.refl _ _) h (Keep.drewN _ _ 1)
theorem RefPost.heap {rb base : Nat} {most : Int} {v : Value} {ps : List Pk} {c0 c1 c2 c3 : Int} {t : Nat} {X W : World} {o : Obj} (h : RefPost rb base most v ps c0 c1 c2 c3 X W) (ht : t ≠ rb) (hx : X.heap[t]? = some o) : W.heap[t]? = some o := by
  obtain ⟨v', _, _, hk⟩ := h
  exact hk.heap hx ht
theorem RefPost.block {rb base : Nat} {most : Int} {v : Value} {ps : List Pk} {c0 c1 c2 c3 : Int} {X W : World} (h : RefPost rb base most v ps c0 c1 c2 c3 X W) : ∃ v', W.heap[rb]? = some (.cells #[.int .i64 most, v', .int .i64 c0, .int .i64 c1, .int .i64 c2, .int .i64 c3] 65 (0, 0)) := by
  obtain ⟨v', h1, _⟩ := h
  exact ⟨v', h1.block⟩
set_option maxHeartbeats 2000000 in
theorem ref_take_ok (rb base : Nat) (most : Int) (v : Value) (ps : List Pk) (c0 c1 c2 c3 : Int) (i : Nat) (f : Int) (s : ByteArray) (w : World) (h : RefAt w rb base most v ps c0 c1 c2 c3) (hi : ps[i]? = some (f, s)) (h64 : ps.length ≤ 64) (hb : base ≤ w.heap.size) (hc0 : 0 ≤ c1) (hc1 : c1 ≤ 1000000000) :
    Calls Try.prog 31 #[.pointer (some ⟨rb, 0, none⟩), .int .i64 i] w fun e w' => e = .returned (.tuple #[.agg #[.int .i64 f, .string s], .int .i64 0]) ∧ RefPost rb base most v (ps.eraseIdx i) c0 (c1 + 1) c2 c3 w w' := by
  have HL : Hid (∀ W, Keep (fun _ => False) w W → Calls Try.prog 35 #[.pointer (some ⟨rb, 0, none⟩), .int .i64 i] W fun e w' => e = .returned (.tuple #[.agg #[.int .i64 f, .string s], .int .i64 0]) ∧ Keep (fun _ => False) W w') := fun W k => ref_look_ok rb base most v ps c0 c1 c2 c3 i f s W (h.keep0 k) hi
  have HO : Hid (∀ W, Keep (fun _ => False) w W → Calls Try.prog 39 #[.pointer (some ⟨rb, 0, none⟩), .int .i64 i] W fun e w' => e = .returned (.tuple #[]) ∧ RefPost rb base most v (ps.eraseIdx i) c0 c1 c2 c3 W w') := fun W k => ref_out rb base most v ps c0 c1 c2 c3 i W (h.keep0 k) h64 (Nat.le_trans hb k.size)
  have HNB : Hid (rb < w.heap.size ∧ ∀ g, v.ownBlock = some g → g < w.heap.size) := ⟨lt_of_block h.block, fun g hg => (h.row.lt g hg).2⟩
  clear h hi
  obtain ⟨r, hr⟩ : ∃ r, w.heap.size = r := ⟨_, rfl⟩
  have HR := Lib.hid hr
  have HNR : Hid (rb < r ∧ ∀ g, v.ownBlock = some g → g < r) := by rw [← hr]; exact HNB.out
  go_enter Try.func31, Try.ntmps31
  go_wp2_with (go_at_call 35; refine (HL.out _ (Keep.alloc _ _ _)).mono ?_; rintro e W1 ⟨rfl, hk⟩; have K1 : Hid (Keep (fun _ => False) w W1) := (Keep.alloc _ _ _).trans hk; have A1 : Hid (W1.heap[r]? = some (.cells #[.int .i64 0, .string ⟨#[]⟩] 34 (0, 0))) := (by rw [← HR.out]; exact hk.heap (heap_alloc_new w _) (fun h => h)); clear hk; obtain ⟨q, hq⟩ : ∃ q, W1.heap.size = q := ⟨_, rfl⟩; have HQ := Lib.hid hq)
  with_reducible refine (HO.out _ ?ha).mono ?_
  case ha => exact K1.out.allocR _
  rintro e W2 ⟨rfl, hp⟩
  have HP := Lib.hid hp
  have hrq : r < q := by rw [← HQ.out]; exact lt_of_block A1.out
  have B1 : W2.heap[r]? = some (.cells #[.int .i64 0, .string ⟨#[]⟩] 34 (0, 0)) := hp.heap (by have := HNR.out.1; omega) ((Keep.alloc (fun _ => False) _ _).heap A1.out (fun h => h))
  have B2 : W2.heap[q]? = some (.cells #[.int .i64 f, .string s] 34 (0, 0)) := hp.heap (by have := HNR.out.1; omega) (by rw [← HQ.out]; exact heap_alloc_new _ _)
  obtain ⟨v', hv'⟩ := hp.block
  have e0 : W2.cell? ⟨rb, 3, none⟩ = some (.int .i64 c1) := cell_of hv' 3
  have e1 : W2.frozen? ⟨rb, 3, none⟩ = false := free_of hv' 3
  have e2 : W2.cell? ⟨q, 0, none⟩ = some (.int .i64 f) := cell_of B2 0
  have e3 : W2.cell? ⟨q, 1, none⟩ = some (.string s) := cell_of B2 1
  have e4 : W2.cell? ⟨r, 0, none⟩ = some (.int .i64 0) := cell_of B1 0
  have e5 : W2.cell? ⟨r, 1, none⟩ = some (.string ⟨#[]⟩) := cell_of B1 1
  have e6 : W2.frozen? ⟨r, 0, none⟩ = false := free_of B1 0
  have e7 : W2.frozen? ⟨r, 1, none⟩ = false := free_of B1 1
  have n1 : ¬ rb = r := by have := HNR.out.1; omega
  have n2 : ¬ rb = q := by have := HNR.out.1; omega
  have n3 : ¬ r = q := by omega
  clear hp B1 B2 hv'
  go_wp2_with fail
  go_still_tail 10, (by kernel_rfl)
  go_wp2_with fail
  refine bodyPost_ret (v := .tuple #[.agg #[.int .i64 f, .string s], .int .i64 0]) (by simp [results, Try.results31, go_sem, e4, e5]) rfl ⟨rfl, ?_⟩
  refine RefPost.drew ?_
  refine (HP.out.count1 (c1 + 1)).store HNR.out HR.out (K1.out.allocR _) (Nat.le_refl _) ?_
  show r < (W1.heap.push _).size
  rw [Array.size_push]; omega
end Go.Proofs.Ythcagpgdekhaeaa
