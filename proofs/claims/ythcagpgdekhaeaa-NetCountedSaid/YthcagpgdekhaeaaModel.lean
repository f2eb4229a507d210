/- Packets and nets as they lie in memory. -/
import Derived.Test.YthcagpgdekhaeaaOpen
import Derived.Laws.AppendOwn
import Derived.Laws.OwnMore
namespace Go.Proofs.Ythcagpgdekhaeaa
open Go.RowKit
/-- Packets: from, bytes. -/
abbrev Pk := Int × ByteArray
def flat (ps : List Pk) : List Value := ps.flatMap fun p => [.int .i64 p.1, .string p.2]
theorem flat_nil : flat [] = [] := rfl
theorem flat_cons (p : Pk) (ps : List Pk) : flat (p :: ps) = .int .i64 p.1 :: .string p.2 :: flat ps := rfl
theorem flat_append (ps qs : List Pk) : flat (ps ++ qs) = flat ps ++ flat qs := by simp [flat]
theorem flat_length (ps : List Pk) : (flat ps).length = ps.length * 2 := by
  induction ps with
  | nil => rfl
  | cons p ps ih => rw [flat_cons]; simp [ih]; omega
theorem flat_at (ps : List Pk) (i : Nat) (p : Pk) (h : ps[i]? = some p) : (flat ps)[i * 2]? = some (.int .i64 p.1) ∧ (flat ps)[i * 2 + 1]? = some (.string p.2) := by
  induction ps generalizing i with
  | nil => simp at h
  | cons q ps ih =>
    cases i with
    | zero => simp at h; subst h; simp [flat_cons]
    | succ i =>
      have := ih i (by simpa using h)
      rw [flat_cons]
      rw [show (i + 1) * 2 = i * 2 + 1 + 1 by omega]
      simpa using this
/-- A net in block nb: at most so many, the packets' row, the counts. -/
structure NetAt (w : World) (nb base : Nat) (most : Int) (v : Value) (ps : List Pk) (c0 c1 c2 c3 : Int) : Prop where
  block : w.heap[nb]? = some (.cells #[.int .i64 most, v, .int .i64 c0, .int .i64 c1, .int .i64 c2, .int .i64 c3] 56 (0, 0))
  row : w.ownsRow base 34 2 v ps.length (flat ps)
theorem NetAt.cells {w : World} {nb base : Nat} {most : Int} {v : Value} {ps : List Pk} {c0 c1 c2 c3 : Int} (h : NetAt w nb base most v ps c0 c1 c2 c3) :
    w.cell? ⟨nb, 0, none⟩ = some (.int .i64 most) ∧ w.cell? ⟨nb, 1, none⟩ = some v ∧ w.cell? ⟨nb, 2, none⟩ = some (.int .i64 c0) ∧ w.cell? ⟨nb, 3, none⟩ = some (.int .i64 c1) ∧ w.cell? ⟨nb, 4, none⟩ = some (.int .i64 c2) ∧ w.cell? ⟨nb, 5, none⟩ = some (.int .i64 c3) :=
  ⟨cell_of h.block 0, cell_of h.block 1, cell_of h.block 2, cell_of h.block 3, cell_of h.block 4, cell_of h.block 5⟩
theorem NetAt.free {w : World} {nb base : Nat} {most : Int} {v : Value} {ps : List Pk} {c0 c1 c2 c3 : Int} (h : NetAt w nb base most v ps c0 c1 c2 c3) (j : Nat) : w.frozen? ⟨nb, j, none⟩ = false := free_of h.block j
/-- A step that leaves the net's block and its row's block alone. -/
theorem NetAt.keep {S : Nat → Prop} {w w' : World} {nb base : Nat} {most : Int} {v : Value} {ps : List Pk} {c0 c1 c2 c3 : Int} (h : NetAt w nb base most v ps c0 c1 c2 c3) (k : Keep S w w') (hn : ¬ S nb) (hr : ∀ g, v.ownBlock = some g → ¬ S g) : NetAt w' nb base most v ps c0 c1 c2 c3 := by
  refine ⟨k.heap h.block hn, h.row.1, ?_⟩
  rcases h.row.2 with hn | ⟨g, cap, cur, rfl, hb, hg, rest⟩
  · exact .inl hn
  · exact .inr ⟨g, cap, cur, rfl, hb, k.heap hg (hr g rfl), rest⟩
theorem NetAt.keep0 {w w' : World} {nb base : Nat} {most : Int} {v : Value} {ps : List Pk} {c0 c1 c2 c3 : Int} (h : NetAt w nb base most v ps c0 c1 c2 c3) (k : Keep (fun _ => False) w w') : NetAt w' nb base most v ps c0 c1 c2 c3 :=
  h.keep k (fun h => h) (fun _ _ h => h)
/-- The row's slice: nothing, or a row of its own. -/
theorem NetAt.slice {w : World} {nb base : Nat} {most : Int} {v : Value} {ps : List Pk} {c0 c1 c2 c3 : Int} (h : NetAt w nb base most v ps c0 c1 c2 c3) : ∃ a cap, v = .slice a ps.length cap ∧ ps.length ≤ cap ∧ cap ≤ maxLen := by
  obtain ⟨a, cap, h1, h2, h3⟩ := own_len h.row
  exact ⟨a, cap, h1, h3, h2⟩
/-- The cells of packet i. -/
theorem NetAt.packet {w : World} {nb base : Nat} {most : Int} {a : Option Addr} {cap : Nat} {ps : List Pk} {c0 c1 c2 c3 : Int} (h : NetAt w nb base most (.slice a ps.length cap) ps c0 c1 c2 c3) (i : Nat) (p : Pk) (hp : ps[i]? = some p) :
    ∃ g, a = some ⟨g, 0, none⟩ ∧ base ≤ g ∧ g ≠ nb ∧ w.cell? ⟨g, i * 2, none⟩ = some (.int .i64 p.1) ∧ w.cell? ⟨g, i * 2 + 1, none⟩ = some (.string p.2) ∧ w.frozen? ⟨g, i * 2, none⟩ = false ∧ w.frozen? ⟨g, i * 2 + 1, none⟩ = false := by
  have hi : i < ps.length := (List.getElem?_eq_some_iff.1 hp).1
  rcases h.row.2 with ⟨hv, hn⟩ | ⟨g, cap', cur, hv, hb, hg, hc, hm, hs, ht⟩
  · omega
  · simp only [Value.slice.injEq] at hv
    obtain ⟨rfl, _, rfl⟩ := hv
    have key : ∀ j, j < ps.length * 2 → cur[j]? = (flat ps)[j]? := fun j hj => by
      rw [← ht, List.getElem?_take, if_pos hj]
      simp
    obtain ⟨f1, f2⟩ := flat_at ps i p hp
    refine ⟨g, rfl, hb, ?_, ?_, ?_, free_of hg _, free_of hg _⟩
    · intro e
      subst e
      have := h.block
      rw [hg] at this
      simp at this
    · rw [cell_of hg, key _ (by omega)]; exact f1
    · rw [cell_of hg, key _ (by omega)]; exact f2
end Go.Proofs.Ythcagpgdekhaeaa
