/- A net of the call's own beside a row that grows. -/
import Derived.Test.YthcagpgdekhaeaaN11
import Derived.Test.YthcagpgdekhaeaaN13
namespace Go.Proofs.Ythcagpgdekhaeaa
open Go.RowKit
theorem Own.grow {S P : Nat → Prop} {w W W' : World} {nb : Nat} {most : Int} {ps : List Pk} {c0 c1 c2 c3 : Int} (h : Own w W nb most ps c0 c1 c2 c3 P) (k : Keep S W W') (hS : ∀ i, S i → P i ∧ w.heap.size ≤ i) : Own w W' nb most ps c0 c1 c2 c3 (fun i => P i ∨ (W.heap.size ≤ i ∧ i < W'.heap.size)) := by
  have h' := h
  obtain ⟨v, h1, h2, h3, h4⟩ := h
  have hlt : nb < W.heap.size := lt_of_block h1.block
  obtain ⟨v0, a1, a2, a3, a4⟩ := h'.keepP k hS
  have e : v = v0 := by
    have b1 : W'.heap[nb]? = _ := k.heap h1.block (fun hc => (h4 nb (hS nb hc).1).2.1 rfl)
    have b2 := a1.block
    rw [b1] at b2
    simp only [Option.some.injEq, Obj.cells.injEq] at b2
    have := congrArg (fun x : Array Value => x[1]?) b2.1
    simpa using this
  subst e
  refine ⟨v, a1, a2, a3, fun i hi => ?_⟩
  rcases hi with hi | hi
  · exact a4 i hi
  · refine ⟨hi.2, by omega, fun e => ?_⟩
    have := (h1.row.lt i e).2
    omega
/-- The blocks of a slice's own row. -/
def RowOf (v : Value) (i : Nat) : Prop := v.ownBlock = some i
/-- What a round of the first loop begins with: a net and a row that hold the same packets. -/
def Both (w W : World) (nb : Nat) (v : Value) (ps : List Pk) : Prop :=
  ps.length ≤ 64 ∧ Own w W nb 64 ps ps.length 0 0 0 (RowOf v) ∧ W.ownsRow w.heap.size 34 2 v ps.length (flat ps)
theorem Both.keep0 {w W W' : World} {nb : Nat} {v : Value} {ps : List Pk} (h : Both w W nb v ps) (k : Keep (fun _ => False) W W') : Both w W' nb v ps :=
  ⟨h.1, h.2.1.keep0 k, ownsRow_keep' h.2.2 k (fun _ _ h => h)⟩
theorem both_start {w W : World} {nb : Nat} (h : Own w W nb 64 [] 0 0 0 0 none1) : Both w W nb (.slice none 0 0) [] :=
  ⟨by decide, h.less (fun i hi => by simp [RowOf, Value.ownBlock] at hi), World.ownsRow_nil _ _ _ _⟩
/-- A packet is sent: the net has it, the row not yet; the block q lies as it lay. -/
def Sent (w W : World) (nb q : Nat) (v : Value) (ps : List Pk) (p : Pk) : Prop :=
  ps.length < 64 ∧ Own w W nb 64 (ps ++ [p]) (ps.length + 1) 0 0 0 (fun i => RowOf v i ∨ i = q) ∧ W.ownsRow w.heap.size 34 2 v ps.length (flat ps)
theorem Both.send_ok {w W : World} {nb : Nat} {v : Value} {ps : List Pk} (h : Both w W nb v ps) (hlt : ps.length < 64) (o : Obj) (f : Int) (a : Option Addr) (s : ByteArray) (cap : Nat) (hf : f = 1 ∨ f = 2) (hn : s.size ≤ 1048592) (hb : Bs w a s) :
    Calls Try.prog 11 #[.pointer (some ⟨nb, 0, none⟩), .int .i64 f, .slice a s.size cap] (W.alloc o) fun e w' => e = .returned (.int .i64 0) ∧ Sent w w' nb W.heap.size v ps (f, s) ∧ w'.heap[W.heap.size]? = some o := by
  have k1 : Keep (fun _ => False) W (W.alloc o) := Keep.alloc _ _ _
  have hO : Own w (W.alloc o) nb 64 ps ps.length 0 0 0 (fun i => RowOf v i ∨ i = W.heap.size) := (h.2.1.fresh k1).less (fun i hi => by
    rcases hi with hi | rfl
    · exact .inl hi
    · exact .inr ⟨Nat.le_refl _, by simp⟩)
  refine (hO.send_ok f a s cap hf hn (hb.keep0 hO.keep) (by omega) (by decide) (by omega) (by omega)).mono fun e w' ⟨he, hp, hk⟩ => ⟨he, ⟨hlt, hp, ?_⟩, ?_⟩
  · exact ownsRow_keep' (ownsRow_keep' h.2.2 k1 (fun _ _ h => h)) hk (fun i hi hc => hc (.inl hi))
  · exact hk.heap (heap_alloc_new W o) (fun hc => hc (.inr rfl))
theorem Both.send_full {w W : World} {nb : Nat} {v : Value} {ps : List Pk} (h : Both w W nb v ps) (hlt : 64 ≤ ps.length) (o : Obj) (f : Int) (a : Option Addr) (s : ByteArray) (cap : Nat) (hf : f = 1 ∨ f = 2) (hn : s.size ≤ 1048592) (hb : Bs w a s) :
    Calls Try.prog 11 #[.pointer (some ⟨nb, 0, none⟩), .int .i64 f, .slice a s.size cap] (W.alloc o) fun e w' => e = .returned (.int .i64 210) ∧ Both w w' nb v ps := by
  have h1 := h.keep0 (Keep.alloc (fun _ => False) W o)
  exact (h1.2.1.send_full f a s cap (by decide) hf hn (hb.keep0 h1.2.1.keep) (by omega) h.1).mono fun e w' ⟨he, _, hk⟩ => ⟨he, h1.keep0 hk⟩
theorem Both.send_arg {w W : World} {nb : Nat} {v : Value} {ps : List Pk} (h : Both w W nb v ps) (o : Obj) (f : Int) (a : Option Addr) (n cap : Nat) (hf : f ≠ 1 ∧ f ≠ 2) :
    Calls Try.prog 11 #[.pointer (some ⟨nb, 0, none⟩), .int .i64 f, .slice a n cap] (W.alloc o) fun e w' => e = .returned (.int .i64 2) ∧ Both w w' nb v ps := by
  have h1 := h.keep0 (Keep.alloc (fun _ => False) W o)
  exact (h1.2.1.send_arg f a n cap (by decide) hf).mono fun e w' ⟨he, hw⟩ => ⟨he, hw ▸ h1⟩
theorem Both.send_long {w W : World} {nb : Nat} {v : Value} {ps : List Pk} (h : Both w W nb v ps) (o : Obj) (f : Int) (a : Option Addr) (n cap : Nat) (hf : f = 1 ∨ f = 2) (hn : 1048592 < n) :
    Calls Try.prog 11 #[.pointer (some ⟨nb, 0, none⟩), .int .i64 f, .slice a n cap] (W.alloc o) fun e w' => e = .returned (.int .i64 3) ∧ Both w w' nb v ps := by
  have h1 := h.keep0 (Keep.alloc (fun _ => False) W o)
  exact (h1.2.1.send_long f a n cap (by decide) hf hn).mono fun e w' ⟨he, hw⟩ => ⟨he, hw ▸ h1⟩
/-- The row has it, too. -/
theorem Sent.row {w W W' : World} {nb q g cap : Nat} {v : Value} {ps : List Pk} {f : Int} {s : ByteArray} (h : Sent w W nb q v ps (f, s)) (o : Obj) (hown : W'.ownsRow w.heap.size 34 2 (.slice (some ⟨g, 0, none⟩) (ps.length + 1) cap) (ps.length + 1) (flat ps ++ [.int .i64 f, .string s])) (hg : (W.alloc o).grownBy W' v.ownBlock) (hat : v.ownBlock = some g ∨ g = W.heap.size + 1) (hlt : g < W'.heap.size) :
    Both w W' nb (.slice (some ⟨g, 0, none⟩) (ps.length + 1) cap) (ps ++ [(f, s)]) := by
  have hS : ∀ i, v.ownBlock = some i → RowOf v i ∧ w.heap.size ≤ i := fun i hi => ⟨hi, (h.2.2.lt i hi).1⟩
  have h1 := (h.2.1.less (P' := RowOf v) (fun i hi => .inl hi)).keep0 (Keep.alloc (fun _ => False) W o)
  have h2 := h1.grow (Keep.grown hg) hS
  refine ⟨by simp; have := h.1; omega, ?_, ?_⟩
  · have e : (((ps ++ [(f, s)]).length : Nat) : Int) = (ps.length : Int) + 1 := by simp
    rw [e]
    refine h2.less (fun i hi => ?_)
    simp only [RowOf, Value.ownBlock, Option.some.injEq] at hi
    subst hi
    rcases hat with hat | hat
    · exact .inl hat
    · exact .inr ⟨by simp; omega, hlt⟩
  · rw [flat_append, List.length_append]
    exact hown
/-- What a round of the second loop begins with: the first k packets were taken. -/
def Drain (w W : World) (nb : Nat) (v : Value) (ps : List Pk) (k : Nat) : Prop :=
  ps.length ≤ 64 ∧ Own w W nb 64 (ps.drop k) ps.length k 0 0 (RowOf v) ∧ W.ownsRow w.heap.size 34 2 v ps.length (flat ps)
theorem Drain.keep0 {w W W' : World} {nb k : Nat} {v : Value} {ps : List Pk} (h : Drain w W nb v ps k) (kk : Keep (fun _ => False) W W') : Drain w W' nb v ps k :=
  ⟨h.1, h.2.1.keep0 kk, ownsRow_keep' h.2.2 kk (fun _ _ h => h)⟩
theorem Both.drain {w W : World} {nb : Nat} {v : Value} {ps : List Pk} (h : Both w W nb v ps) : Drain w W nb v ps 0 := ⟨h.1, h.2.1, h.2.2⟩
theorem Drain.take {w W : World} {nb k : Nat} {v : Value} {ps : List Pk} (h : Drain w W nb v ps k) (f : Int) (s : ByteArray) (hk : ps[k]? = some (f, s)) (o : Obj) :
    Calls Try.prog 12 #[.pointer (some ⟨nb, 0, none⟩), .int .i64 0] (W.alloc o) fun e w' => e = .returned (.tuple #[.agg #[.int .i64 f, .string s], .int .i64 0]) ∧ Drain w w' nb v ps (k + 1) ∧ w'.heap[W.heap.size]? = some o := by
  have k1 : Keep (fun _ => False) W (W.alloc o) := Keep.alloc _ _ _
  have hlt : k < ps.length := (List.getElem?_eq_some_iff.1 hk).1
  have h64 := h.1
  have hO : Own w (W.alloc o) nb 64 (ps.drop k) ps.length k 0 0 (fun i => RowOf v i ∨ i = W.heap.size) := (h.2.1.fresh k1).less (fun i hi => by
    rcases hi with hi | rfl
    · exact .inl hi
    · exact .inr ⟨Nat.le_refl _, by simp⟩)
  refine (hO.take_ok 0 f s (by decide) (by simpa using hk) (by simp; omega) (by omega) (by omega)).mono fun e w' ⟨he, hp, hkk⟩ => ⟨he, ⟨h64, ?_, ?_⟩, ?_⟩
  · have e1 : (ps.drop k).eraseIdx 0 = ps.drop (k + 1) := by
      rw [List.drop_eq_getElem_cons hlt, List.eraseIdx_cons_zero]
    have e2 : (((k + 1 : Nat)) : Int) = (k : Int) + 1 := by omega
    rw [e1] at hp
    rw [e2]
    exact hp.less (fun i hi => .inl hi)
  · exact ownsRow_keep' (ownsRow_keep' h.2.2 k1 (fun _ _ h => h)) hkk (fun i hi hc => hc (.inl hi))
  · exact hkk.heap (heap_alloc_new W o) (fun hc => hc (.inr rfl))
theorem Drain.empty {w W : World} {nb : Nat} {v : Value} {ps : List Pk} (h : Drain w W nb v ps ps.length) :
    Calls Try.prog 12 #[.pointer (some ⟨nb, 0, none⟩), .int .i64 0] W fun e w' => e = .returned (.tuple #[.agg #[.int .i64 0, .string ⟨#[]⟩], .int .i64 211]) ∧ Drain w w' nb v ps ps.length := by
  have h1 := h.2.1
  rw [List.drop_length] at h1
  exact (h1.take_bad 0 (by decide) (.inr (by simp)) (by simp)).mono fun e w' ⟨he, _, hk⟩ => ⟨he, h.keep0 hk⟩
theorem Drain.len {w W : World} {nb : Nat} {v : Value} {ps : List Pk} (h : Drain w W nb v ps ps.length) :
    Calls Try.prog 13 #[.pointer (some ⟨nb, 0, none⟩)] W fun e w' => e = .returned (.int .i64 0) ∧ w' = W := by
  have h1 := h.2.1
  rw [List.drop_length] at h1
  exact h1.len (by decide)
/-- Packet k of the row, cell by cell. -/
theorem Drain.packet {w W : World} {nb k cap : Nat} {a : Option Addr} {ps : List Pk} (h : Drain w W nb (.slice a ps.length cap) ps k) (f : Int) (s : ByteArray) (hk : ps[k]? = some (f, s)) :
    ∃ g, a = some ⟨g, 0, none⟩ ∧ W.cell? ⟨g, k * 2, none⟩ = some (.int .i64 f) ∧ W.cell? ⟨g, k * 2 + 1, none⟩ = some (.string s) := by
  have hi : k < ps.length := (List.getElem?_eq_some_iff.1 hk).1
  rcases h.2.2.2 with ⟨hv, hn⟩ | ⟨g, cap', cur, hv, hb, hg, hc, hm, hs, ht⟩
  · omega
  · simp only [Value.slice.injEq] at hv
    obtain ⟨rfl, _, rfl⟩ := hv
    have key : ∀ j, j < ps.length * 2 → cur[j]? = (flat ps)[j]? := fun j hj => by
      rw [← ht, List.getElem?_take, if_pos hj]
      simp
    obtain ⟨f1, f2⟩ := flat_at ps k (f, s) hk
    refine ⟨g, rfl, ?_, ?_⟩
    · rw [cell_of hg, key _ (by omega)]; exact f1
    · rw [cell_of hg, key _ (by omega)]; exact f2
end Go.Proofs.Ythcagpgdekhaeaa
