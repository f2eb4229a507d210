/- What is done with a packet: 'with', and the closures. -/
import Derived.Test.YthcagpgdekhaeaaN6
namespace Go.Proofs.Ythcagpgdekhaeaa
open Go.RowKit
/-- What a step leaves: a net that holds ps', its row where it lay or in a new block. -/
def NetPost (nb base : Nat) (most : Int) (v : Value) (ps : List Pk) (c0 c1 c2 c3 : Int) (w w' : World) : Prop :=
  ∃ v', NetAt w' nb base most v' ps c0 c1 c2 c3 ∧ Moved w v v' ∧ Keep (fun i => i = nb ∨ v.ownBlock = some i) w w'
def DoPost (nb base : Nat) (most : Int) (v : Value) (ps : List Pk) (c0 c1 c2 c3 : Int) (x : Int) (w : World) (e : Ending) (w' : World) : Prop := e = .returned (.int .i64 x) ∧ NetPost nb base most v ps c0 c1 c2 c3 w w'
theorem with_mid {nb base r q : Nat} {most : Int} {v : Value} {ps' : List Pk} {e0 e1 e2 e3 f : Int} {s : ByteArray} {W1 W2 : World} (hnb : nb < r ∧ ∀ g, v.ownBlock = some g → g < r) (hq : W1.heap.size = q)
    (ha : W1.heap[r]? = some (.cells #[.int .i64 0, .string ⟨#[]⟩] 34 (0, 0))) (hp : NetPost nb base most v ps' e0 e1 e2 e3 (W1.alloc (.cells #[.int .i64 f, .string s] 34)) W2) :
    W2.cell? ⟨q, 0, none⟩ = some (.int .i64 f) ∧ W2.cell? ⟨q, 1, none⟩ = some (.string s) ∧ W2.cell? ⟨r, 0, none⟩ = some (.int .i64 0) ∧ W2.cell? ⟨r, 1, none⟩ = some (.string ⟨#[]⟩) ∧ W2.frozen? ⟨r, 0, none⟩ = false ∧ W2.frozen? ⟨r, 1, none⟩ = false ∧ ¬ r = q := by
  obtain ⟨v', _, _, hk⟩ := hp
  have hrq : r < q := by rw [← hq]; exact lt_of_block ha
  have hS : ∀ b, r ≤ b → ¬ (b = nb ∨ v.ownBlock = some b) := fun b hb h => by
    rcases h with rfl | h
    · omega
    · have := hnb.2 b h; omega
  have h1 : W2.heap[q]? = some (.cells #[.int .i64 f, .string s] 34 (0, 0)) := hk.heap (by rw [← hq]; exact heap_alloc_new W1 _) (hS q (by omega))
  have h2 : W2.heap[r]? = some (.cells #[.int .i64 0, .string ⟨#[]⟩] 34 (0, 0)) := hk.heap ((Keep.alloc (fun _ => False) _ _).heap ha (fun h => h)) (hS r (Nat.le_refl _))
  exact ⟨cell_of h1 0, cell_of h1 1, cell_of h2 0, cell_of h2 1, free_of h2 0, free_of h2 1, by omega⟩
theorem with_end {nb base r q : Nat} {most : Int} {v : Value} {ps' : List Pk} {e0 e1 e2 e3 : Int} {o : Obj} {a b : Value} {w W1 W2 : World} (hnb : nb < r ∧ ∀ g, v.ownBlock = some g → g < r) (hr : w.heap.size = r) (hq : W1.heap.size = q) (k : Keep (fun _ => False) w W1)
    (hp : NetPost nb base most v ps' e0 e1 e2 e3 (W1.alloc o) W2) : NetPost nb base most v ps' e0 e1 e2 e3 w ((W2.setCell ⟨r, 0, none⟩ a).setCell ⟨r, 1, none⟩ b) := by
  obtain ⟨v', hn, hm, hk⟩ := hp
  have K : Keep (fun i => i = r) W2 ((W2.setCell ⟨r, 0, none⟩ a).setCell ⟨r, 1, none⟩ b) := Keep.two _ _ rfl rfl
  have hsz : w.heap.size ≤ W1.heap.size := k.size
  refine ⟨v', hn.keep K (by omega) (fun g hg e => ?_), ?_, ?_⟩
  · subst e
    rcases hm with h | ⟨g', h1, h2⟩
    · have := hnb.2 g (h ▸ hg); omega
    · rw [hg] at h2
      simp at h2
      simp at h1
      omega
  · rcases hm with h | ⟨g', h1, h2⟩
    · exact .inl h
    · exact .inr ⟨g', by simp at h1; omega, h2⟩
  · have h1 : Keep (fun i => i = nb ∨ v.ownBlock = some i) w W2 := ((k.allocR o).mono (fun _ h => h.elim)).trans hk
    exact h1.step K (fun i hi => .inr (by omega))
set_option maxHeartbeats 1000000 in
theorem with26_ok (nb base : Nat) (most : Int) (v : Value) (ps : List Pk) (c0 c1 c2 c3 : Int) (i : Nat) (f : Int) (s : ByteArray) (b0 b1 : Nat) (x : Int) (ps' : List Pk) (e0 e1 e2 e3 : Int) (w : World) (h : NetAt w nb base most v ps c0 c1 c2 c3) (hm : 1 ≤ most) (hi : ps[i]? = some (f, s))
    (hdo : ∀ W, Keep (fun _ => False) w W → Calls Try.prog 26 #[.agg #[.int .i64 f, .string s], .pointer (some ⟨b0, 0, none⟩), .pointer (some ⟨b1, 0, none⟩)] W (DoPost nb base most v ps' e0 e1 e2 e3 x W)) :
    Calls Try.prog 25 #[.pointer (some ⟨nb, 0, none⟩), .int .i64 i, .func (.func 26) #[] #[.pointer (some ⟨b0, 0, none⟩), .pointer (some ⟨b1, 0, none⟩)]] w fun e w' => e = .returned (.tuple #[.agg #[.int .i64 f, .string s], .int .i64 x]) ∧ NetPost nb base most v ps' e0 e1 e2 e3 w w' := by
  have HL : Hid (∀ W, Keep (fun _ => False) w W → Calls Try.prog 16 #[.pointer (some ⟨nb, 0, none⟩), .int .i64 i] W fun e w' => e = .returned (.tuple #[.agg #[.int .i64 f, .string s], .int .i64 0]) ∧ Keep (fun _ => False) W w') :=
    fun W k => look_at nb base most v ps c0 c1 c2 c3 i f s W (h.keep0 k) hm hi
  have HD := Lib.hid hdo
  have HNB : Hid (nb < w.heap.size ∧ ∀ g, v.ownBlock = some g → g < w.heap.size) := ⟨lt_of_block h.block, fun g hg => (h.row.lt g hg).2⟩
  clear h hi hdo
  obtain ⟨r, hr⟩ : ∃ r, w.heap.size = r := ⟨_, rfl⟩
  have HR := Lib.hid hr
  go_enter Try.func25, Try.ntmps25
  go_wp2_with (first
    | (go_at_call 16; refine (HL.out _ (Keep.alloc _ _ _)).mono ?_; rintro e W1 ⟨rfl, hk⟩; have K1 : Hid (Keep (fun _ => False) w W1) := (Keep.alloc _ _ _).trans hk; have A1 : Hid (W1.heap[r]? = some (.cells #[.int .i64 0, .string ⟨#[]⟩] 34 (0, 0))) := (by rw [← HR.out]; exact hk.heap (heap_alloc_new w _) (fun h => h)); clear hk; obtain ⟨q, hq⟩ : ∃ q, W1.heap.size = q := ⟨_, rfl⟩; have HQ := Lib.hid hq)
    | (go_at_call 26; refine (HD.out _ (K1.out.allocR _)).mono ?_; rintro e W2 ⟨rfl, hp⟩; have HP := Lib.hid hp; clear hp; obtain ⟨C0, C1, C2, C3, C4, C5, C6⟩ := with_mid (by rw [HR.out] at HNB; exact HNB.out) HQ.out A1.out HP.out))
  refine bodyPost_ret (v := .tuple #[.agg #[.int .i64 f, .string s], .int .i64 x]) (by simp [results, Try.results25, go_sem, C2, C3]) rfl ⟨rfl, ?_⟩
  exact with_end (by rw [HR.out] at HNB; exact HNB.out) HR.out HQ.out K1.out HP.out

set_option maxHeartbeats 1000000 in
theorem with28_ok (nb base : Nat) (most : Int) (v : Value) (ps : List Pk) (c0 c1 c2 c3 : Int) (i : Nat) (f : Int) (s : ByteArray) (b0 : Nat) (x : Int) (ps' : List Pk) (e0 e1 e2 e3 : Int) (w : World) (h : NetAt w nb base most v ps c0 c1 c2 c3) (hm : 1 ≤ most) (hi : ps[i]? = some (f, s))
    (hdo : ∀ W, Keep (fun _ => False) w W → Calls Try.prog 28 #[.agg #[.int .i64 f, .string s], .pointer (some ⟨b0, 0, none⟩)] W (DoPost nb base most v ps' e0 e1 e2 e3 x W)) :
    Calls Try.prog 25 #[.pointer (some ⟨nb, 0, none⟩), .int .i64 i, .func (.func 28) #[] #[.pointer (some ⟨b0, 0, none⟩)]] w fun e w' => e = .returned (.tuple #[.agg #[.int .i64 f, .string s], .int .i64 x]) ∧ NetPost nb base most v ps' e0 e1 e2 e3 w w' := by
  have HL : Hid (∀ W, Keep (fun _ => False) w W → Calls Try.prog 16 #[.pointer (some ⟨nb, 0, none⟩), .int .i64 i] W fun e w' => e = .returned (.tuple #[.agg #[.int .i64 f, .string s], .int .i64 0]) ∧ Keep (fun _ => False) W w') :=
    fun W k => look_at nb base most v ps c0 c1 c2 c3 i f s W (h.keep0 k) hm hi
  have HD := Lib.hid hdo
  have HNB : Hid (nb < w.heap.size ∧ ∀ g, v.ownBlock = some g → g < w.heap.size) := ⟨lt_of_block h.block, fun g hg => (h.row.lt g hg).2⟩
  clear h hi hdo
  obtain ⟨r, hr⟩ : ∃ r, w.heap.size = r := ⟨_, rfl⟩
  have HR := Lib.hid hr
  go_enter Try.func25, Try.ntmps25
  go_wp2_with (first
    | (go_at_call 16; refine (HL.out _ (Keep.alloc _ _ _)).mono ?_; rintro e W1 ⟨rfl, hk⟩; have K1 : Hid (Keep (fun _ => False) w W1) := (Keep.alloc _ _ _).trans hk; have A1 : Hid (W1.heap[r]? = some (.cells #[.int .i64 0, .string ⟨#[]⟩] 34 (0, 0))) := (by rw [← HR.out]; exact hk.heap (heap_alloc_new w _) (fun h => h)); clear hk; obtain ⟨q, hq⟩ : ∃ q, W1.heap.size = q := ⟨_, rfl⟩; have HQ := Lib.hid hq)
    | (go_at_call 28; refine (HD.out _ (K1.out.allocR _)).mono ?_; rintro e W2 ⟨rfl, hp⟩; have HP := Lib.hid hp; clear hp; obtain ⟨C0, C1, C2, C3, C4, C5, C6⟩ := with_mid (by rw [HR.out] at HNB; exact HNB.out) HQ.out A1.out HP.out))
  refine bodyPost_ret (v := .tuple #[.agg #[.int .i64 f, .string s], .int .i64 x]) (by simp [results, Try.results25, go_sem, C2, C3]) rfl ⟨rfl, ?_⟩
  exact with_end (by rw [HR.out] at HNB; exact HNB.out) HR.out HQ.out K1.out HP.out

set_option maxHeartbeats 1000000 in
theorem with29_ok (nb base : Nat) (most : Int) (v : Value) (ps : List Pk) (c0 c1 c2 c3 : Int) (i : Nat) (f : Int) (s : ByteArray) (b0 b1 b2 b3 : Nat) (x : Int) (ps' : List Pk) (e0 e1 e2 e3 : Int) (w : World) (h : NetAt w nb base most v ps c0 c1 c2 c3) (hm : 1 ≤ most) (hi : ps[i]? = some (f, s))
    (hdo : ∀ W, Keep (fun _ => False) w W → Calls Try.prog 29 #[.agg #[.int .i64 f, .string s], .pointer (some ⟨b0, 0, none⟩), .pointer (some ⟨b1, 0, none⟩), .pointer (some ⟨b2, 0, none⟩), .pointer (some ⟨b3, 0, none⟩)] W (DoPost nb base most v ps' e0 e1 e2 e3 x W)) :
    Calls Try.prog 25 #[.pointer (some ⟨nb, 0, none⟩), .int .i64 i, .func (.func 29) #[] #[.pointer (some ⟨b0, 0, none⟩), .pointer (some ⟨b1, 0, none⟩), .pointer (some ⟨b2, 0, none⟩), .pointer (some ⟨b3, 0, none⟩)]] w fun e w' => e = .returned (.tuple #[.agg #[.int .i64 f, .string s], .int .i64 x]) ∧ NetPost nb base most v ps' e0 e1 e2 e3 w w' := by
  have HL : Hid (∀ W, Keep (fun _ => False) w W → Calls Try.prog 16 #[.pointer (some ⟨nb, 0, none⟩), .int .i64 i] W fun e w' => e = .returned (.tuple #[.agg #[.int .i64 f, .string s], .int .i64 0]) ∧ Keep (fun _ => False) W w') :=
    fun W k => look_at nb base most v ps c0 c1 c2 c3 i f s W (h.keep0 k) hm hi
  have HD := Lib.hid hdo
  have HNB : Hid (nb < w.heap.size ∧ ∀ g, v.ownBlock = some g → g < w.heap.size) := ⟨lt_of_block h.block, fun g hg => (h.row.lt g hg).2⟩
  clear h hi hdo
  obtain ⟨r, hr⟩ : ∃ r, w.heap.size = r := ⟨_, rfl⟩
  have HR := Lib.hid hr
  go_enter Try.func25, Try.ntmps25
  go_wp2_with (first
    | (go_at_call 16; refine (HL.out _ (Keep.alloc _ _ _)).mono ?_; rintro e W1 ⟨rfl, hk⟩; have K1 : Hid (Keep (fun _ => False) w W1) := (Keep.alloc _ _ _).trans hk; have A1 : Hid (W1.heap[r]? = some (.cells #[.int .i64 0, .string ⟨#[]⟩] 34 (0, 0))) := (by rw [← HR.out]; exact hk.heap (heap_alloc_new w _) (fun h => h)); clear hk; obtain ⟨q, hq⟩ : ∃ q, W1.heap.size = q := ⟨_, rfl⟩; have HQ := Lib.hid hq)
    | (go_at_call 29; refine (HD.out _ (K1.out.allocR _)).mono ?_; rintro e W2 ⟨rfl, hp⟩; have HP := Lib.hid hp; clear hp; obtain ⟨C0, C1, C2, C3, C4, C5, C6⟩ := with_mid (by rw [HR.out] at HNB; exact HNB.out) HQ.out A1.out HP.out))
  refine bodyPost_ret (v := .tuple #[.agg #[.int .i64 f, .string s], .int .i64 x]) (by simp [results, Try.results25, go_sem, C2, C3]) rfl ⟨rfl, ?_⟩
  exact with_end (by rw [HR.out] at HNB; exact HNB.out) HR.out HQ.out K1.out HP.out

set_option maxHeartbeats 1000000 in
theorem with37_ok (nb base : Nat) (most : Int) (v : Value) (ps : List Pk) (c0 c1 c2 c3 : Int) (i : Nat) (f : Int) (s : ByteArray) (b0 b1 : Nat) (x : Int) (ps' : List Pk) (e0 e1 e2 e3 : Int) (w : World) (h : NetAt w nb base most v ps c0 c1 c2 c3) (hm : 1 ≤ most) (hi : ps[i]? = some (f, s))
    (hdo : ∀ W, Keep (fun _ => False) w W → Calls Try.prog 37 #[.agg #[.int .i64 f, .string s], .pointer (some ⟨b0, 0, none⟩), .pointer (some ⟨b1, 0, none⟩)] W (DoPost nb base most v ps' e0 e1 e2 e3 x W)) :
    Calls Try.prog 25 #[.pointer (some ⟨nb, 0, none⟩), .int .i64 i, .func (.func 37) #[] #[.pointer (some ⟨b0, 0, none⟩), .pointer (some ⟨b1, 0, none⟩)]] w fun e w' => e = .returned (.tuple #[.agg #[.int .i64 f, .string s], .int .i64 x]) ∧ NetPost nb base most v ps' e0 e1 e2 e3 w w' := by
  have HL : Hid (∀ W, Keep (fun _ => False) w W → Calls Try.prog 16 #[.pointer (some ⟨nb, 0, none⟩), .int .i64 i] W fun e w' => e = .returned (.tuple #[.agg #[.int .i64 f, .string s], .int .i64 0]) ∧ Keep (fun _ => False) W w') :=
    fun W k => look_at nb base most v ps c0 c1 c2 c3 i f s W (h.keep0 k) hm hi
  have HD := Lib.hid hdo
  have HNB : Hid (nb < w.heap.size ∧ ∀ g, v.ownBlock = some g → g < w.heap.size) := ⟨lt_of_block h.block, fun g hg => (h.row.lt g hg).2⟩
  clear h hi hdo
  obtain ⟨r, hr⟩ : ∃ r, w.heap.size = r := ⟨_, rfl⟩
  have HR := Lib.hid hr
  go_enter Try.func25, Try.ntmps25
  go_wp2_with (first
    | (go_at_call 16; refine (HL.out _ (Keep.alloc _ _ _)).mono ?_; rintro e W1 ⟨rfl, hk⟩; have K1 : Hid (Keep (fun _ => False) w W1) := (Keep.alloc _ _ _).trans hk; have A1 : Hid (W1.heap[r]? = some (.cells #[.int .i64 0, .string ⟨#[]⟩] 34 (0, 0))) := (by rw [← HR.out]; exact hk.heap (heap_alloc_new w _) (fun h => h)); clear hk; obtain ⟨q, hq⟩ : ∃ q, W1.heap.size = q := ⟨_, rfl⟩; have HQ := Lib.hid hq)
    | (go_at_call 37; refine (HD.out _ (K1.out.allocR _)).mono ?_; rintro e W2 ⟨rfl, hp⟩; have HP := Lib.hid hp; clear hp; obtain ⟨C0, C1, C2, C3, C4, C5, C6⟩ := with_mid (by rw [HR.out] at HNB; exact HNB.out) HQ.out A1.out HP.out))
  refine bodyPost_ret (v := .tuple #[.agg #[.int .i64 f, .string s], .int .i64 x]) (by simp [results, Try.results25, go_sem, C2, C3]) rfl ⟨rfl, ?_⟩
  exact with_end (by rw [HR.out] at HNB; exact HNB.out) HR.out HQ.out K1.out HP.out

theorem with_nobody {v fv : Value} (i : Int) (w : World) (h : Nobody w v) : Calls Try.prog 25 #[v, .int .i64 i, fv] w fun e w' => e = .returned (.tuple #[.agg #[.int .i64 0, .string ⟨#[]⟩], .int .i64 1]) ∧ Keep (fun _ => False) w w' := by
  have HL : Hid (∀ W, Keep (fun _ => False) w W → Calls Try.prog 16 #[v, .int .i64 i] W fun e w' => e = .returned (.tuple #[.agg #[.int .i64 0, .string ⟨#[]⟩], .int .i64 1]) ∧ Keep (fun _ => False) W w') := fun W k => look_nobody i W (h.keep k)
  clear h
  obtain ⟨r, hr⟩ : ∃ r, w.heap.size = r := ⟨_, rfl⟩
  have HR := Lib.hid hr
  go_enter Try.func25, Try.ntmps25
  go_wp2_with (go_at_call 16; refine (HL.out _ (Keep.alloc _ _ _)).mono ?_; rintro e W1 ⟨rfl, hk⟩; have K1 : Hid (Keep (fun _ => False) w W1) := (Keep.alloc _ _ _).trans hk; have A1 : W1.heap[r]? = some (.cells #[.int .i64 0, .string ⟨#[]⟩] 34 (0, 0)) := (by rw [← HR.out]; exact hk.heap (heap_alloc_new w _) (fun h => h)); clear hk; have C0 : W1.cell? ⟨r, 0, none⟩ = some (.int .i64 0) := cell_of A1 0; have C1 : W1.cell? ⟨r, 1, none⟩ = some (.string ⟨#[]⟩) := cell_of A1 1; have C2 : W1.frozen? ⟨r, 0, none⟩ = false := free_of A1 0; have C3 : W1.frozen? ⟨r, 1, none⟩ = false := free_of A1 1; have C4 : r < W1.heap.size := lt_of_block A1; have AH := Lib.hid A1; clear A1)
  have G : (((W1.setCell ⟨r, 0, none⟩ (.int .i64 0)).setCell ⟨r, 1, none⟩ (.string ⟨#[]⟩)).alloc (.cells #[.int .i64 0, .string ⟨#[]⟩] 34)).heap[r]? = some (.cells #[.int .i64 0, .string ⟨#[]⟩] 34 (0, 0)) := (Keep.alloc (fun _ => False) _ _).heap (heap_setCell_at (heap_setCell_at AH.out)) (fun h => h)
  have E0 : (((W1.setCell ⟨r, 0, none⟩ (.int .i64 0)).setCell ⟨r, 1, none⟩ (.string ⟨#[]⟩)).alloc (.cells #[.int .i64 0, .string ⟨#[]⟩] 34)).cell? ⟨r, 0, none⟩ = some (.int .i64 0) := cell_of G 0
  have E1 : (((W1.setCell ⟨r, 0, none⟩ (.int .i64 0)).setCell ⟨r, 1, none⟩ (.string ⟨#[]⟩)).alloc (.cells #[.int .i64 0, .string ⟨#[]⟩] 34)).cell? ⟨r, 1, none⟩ = some (.string ⟨#[]⟩) := cell_of G 1
  refine bodyPost_ret (v := .tuple #[.agg #[.int .i64 0, .string ⟨#[]⟩], .int .i64 1]) (by simp [results, Try.results25, go_sem, E0, E1]) rfl ⟨rfl, ?_⟩
  exact ((K1.out.setNew (p := ⟨r, 0, none⟩) (by rw [hr]; exact Nat.le_refl _) _).setNew (p := ⟨r, 1, none⟩) (by rw [hr]; exact Nat.le_refl _) _).allocR _
theorem with_bad (nb base : Nat) (most : Int) (v : Value) (ps : List Pk) (c0 c1 c2 c3 : Int) {fv : Value} (i : Int) (w : World) (h : NetAt w nb base most v ps c0 c1 c2 c3) (hm : 1 ≤ most) (hi : i < 0 ∨ (ps.length : Int) ≤ i) (h64 : ps.length ≤ 64) : Calls Try.prog 25 #[.pointer (some ⟨nb, 0, none⟩), .int .i64 i, fv] w fun e w' => e = .returned (.tuple #[.agg #[.int .i64 0, .string ⟨#[]⟩], .int .i64 211]) ∧ Keep (fun _ => False) w w' := by
  have HL : Hid (∀ W, Keep (fun _ => False) w W → Calls Try.prog 16 #[.pointer (some ⟨nb, 0, none⟩), .int .i64 i] W fun e w' => e = .returned (.tuple #[.agg #[.int .i64 0, .string ⟨#[]⟩], .int .i64 211]) ∧ Keep (fun _ => False) W w') := fun W k => look_bad nb base most v ps c0 c1 c2 c3 i W (h.keep0 k) hm hi h64
  clear h hi
  obtain ⟨r, hr⟩ : ∃ r, w.heap.size = r := ⟨_, rfl⟩
  have HR := Lib.hid hr
  go_enter Try.func25, Try.ntmps25
  go_wp2_with (go_at_call 16; refine (HL.out _ (Keep.alloc _ _ _)).mono ?_; rintro e W1 ⟨rfl, hk⟩; have K1 : Hid (Keep (fun _ => False) w W1) := (Keep.alloc _ _ _).trans hk; have A1 : W1.heap[r]? = some (.cells #[.int .i64 0, .string ⟨#[]⟩] 34 (0, 0)) := (by rw [← HR.out]; exact hk.heap (heap_alloc_new w _) (fun h => h)); clear hk; have C0 : W1.cell? ⟨r, 0, none⟩ = some (.int .i64 0) := cell_of A1 0; have C1 : W1.cell? ⟨r, 1, none⟩ = some (.string ⟨#[]⟩) := cell_of A1 1; have C2 : W1.frozen? ⟨r, 0, none⟩ = false := free_of A1 0; have C3 : W1.frozen? ⟨r, 1, none⟩ = false := free_of A1 1; have C4 : r < W1.heap.size := lt_of_block A1; have AH := Lib.hid A1; clear A1)
  have G : (((W1.setCell ⟨r, 0, none⟩ (.int .i64 0)).setCell ⟨r, 1, none⟩ (.string ⟨#[]⟩)).alloc (.cells #[.int .i64 0, .string ⟨#[]⟩] 34)).heap[r]? = some (.cells #[.int .i64 0, .string ⟨#[]⟩] 34 (0, 0)) := (Keep.alloc (fun _ => False) _ _).heap (heap_setCell_at (heap_setCell_at AH.out)) (fun h => h)
  have E0 : (((W1.setCell ⟨r, 0, none⟩ (.int .i64 0)).setCell ⟨r, 1, none⟩ (.string ⟨#[]⟩)).alloc (.cells #[.int .i64 0, .string ⟨#[]⟩] 34)).cell? ⟨r, 0, none⟩ = some (.int .i64 0) := cell_of G 0
  have E1 : (((W1.setCell ⟨r, 0, none⟩ (.int .i64 0)).setCell ⟨r, 1, none⟩ (.string ⟨#[]⟩)).alloc (.cells #[.int .i64 0, .string ⟨#[]⟩] 34)).cell? ⟨r, 1, none⟩ = some (.string ⟨#[]⟩) := cell_of G 1
  refine bodyPost_ret (v := .tuple #[.agg #[.int .i64 0, .string ⟨#[]⟩], .int .i64 211]) (by simp [results, Try.results25, go_sem, E0, E1]) rfl ⟨rfl, ?_⟩
  exact ((K1.out.setNew (p := ⟨r, 0, none⟩) (by rw [hr]; exact Nat.le_refl _) _).setNew (p := ⟨r, 1, none⟩) (by rw [hr]; exact Nat.le_refl _) _).allocR _
end Go.Proofs.Ythcagpgdekhaeaa
