/- A fresh copy of bytes. -/
import Derived.Test.YthcagpgdekhaeaaD3
namespace Go.Proofs.Ythcagpgdekhaeaa
open Go.RowKit
def vals (s : ByteArray) : List Value := s.data.toList.map fun b => Value.int .u8 (b.toNat : Int)
theorem vals_len (s : ByteArray) : (vals s).length = s.size := by
  unfold vals
  rw [List.length_map]
  rfl
theorem vals_one (s : ByteArray) : ∀ u ∈ vals s, u.oneCell' = true := by
  intro u hu
  unfold vals at hu
  rw [List.mem_map] at hu
  obtain ⟨b, _, rfl⟩ := hu
  rfl
theorem vals_at (s : ByteArray) (j : Nat) (hj : j < s.size) : (vals s)[j]? = some (.int .u8 (s[j].toNat : Int)) := by
  have hj' : j < s.data.size := hj
  unfold vals
  rw [List.getElem?_map, List.getElem?_eq_getElem (by simpa using hj')]
  simp [ByteArray.getElem_eq_getElem_data]
theorem bs_of_row {w : World} {b0 g cap : Nat} {s : ByteArray} (h : w.ownsRow b0 5 1 (.slice (some ⟨g, 0, none⟩) s.size cap) s.size (vals s)) : Bs w (some ⟨g, 0, none⟩) s := by
  intro i hi
  refine ⟨g, 0, rfl, ?_⟩
  rcases h.2 with ⟨hv, _⟩ | ⟨g', cap', cur, hv, _, hg, hc, hm, hs, ht⟩
  · simp at hv
  · simp only [Value.slice.injEq, Option.some.injEq, Addr.mk.injEq, and_true, true_and] at hv
    obtain ⟨rfl, rfl⟩ := hv
    rw [Nat.zero_add, cell_of hg]
    have h1 := vals_at s i hi
    rw [← ht, List.getElem?_take, if_pos (by omega)] at h1
    simpa using h1
theorem info5 : (Try.prog.info? 5).map (fun i => (i.zero, i.size, i.bytes)) = some (some (.int .u8 0), 1, 1) := by kernel_rfl
theorem run_copy_bs (ty : TypeId) (b0 g : Nat) (s : ByteArray) (a : Option Addr) (cap : Nat) (w : World) (hb0 : b0 ≤ w.heap.size) (hgb : b0 ≤ g) (hg : w.heap[g]? = some (.cells #[] 5 (0, 0))) (hb : Bs w a s) (hn : s.size ≤ 1000000) :
    ∃ g' cap' w', (Builtin.append_ #[28, 28] ty #[.slice (some ⟨g, 0, none⟩) 0 0, .slice a s.size cap]).run Try.prog w = .ok (.slice (some ⟨g', 0, none⟩) s.size cap') w' ∧ w'.ownsRow b0 5 1 (.slice (some ⟨g', 0, none⟩) s.size cap') s.size (vals s) ∧ Keep (fun _ => False) w w' := by
  obtain ⟨i0, hi, hz0, hz1, hz2⟩ := info_parts info5
  have hown : w.ownsRow b0 5 1 (.slice (some ⟨g, 0, none⟩) 0 0) 0 [] := ⟨rfl, .inr ⟨g, 0, #[], rfl, hgb, hg, Nat.le_refl _, by unfold maxLen; omega, rfl, rfl⟩⟩
  by_cases h0 : s.size = 0
  · have hv : vals s = [] := List.length_eq_zero_iff.1 (by rw [vals_len]; exact h0)
    rw [h0, hv]
    refine ⟨g, 0, w, ?_, hown, Keep.refl _ _⟩
    cases a with
    | none => simp [Builtin.append_, run_underlying Try.underlying28, sizeOf, typeInfo, hi, Builtin.lenOf, Builtin.firstCells, storeCells]
    | some ad =>
      have hroom := run_append_room (P := Try.prog) w 28 ty 5 i0 Try.underlying28 hi g 0 0 #[] hg ad 0 cap [] (by simp) (fun j u h => by simp at h) (fun u h => by cases h) (Nat.le_refl _) (by simp)
      rw [hroom]
      have e3 : ((#[] : Array Value).toList.take (0 * i0.size) ++ [] ++ (#[] : Array Value).toList.drop (0 * i0.size + ([] : List Value).length)).toArray = #[] := by simp
      rw [e3, setRow_self w g #[] 5 (0, 0) hg]
  · obtain ⟨b, o, rfl, _⟩ := hb 0 (by omega)
    have hl : (vals s).length = s.size * i0.size := by rw [vals_len, hz1]; omega
    have hnews : ∀ j u, (vals s)[j]? = some u → w.cell? ((⟨b, o, none⟩ : Addr).add j) = some u := fun j u hj => by
      have hj' : j < s.size := by rw [← vals_len]; exact (List.getElem?_eq_some_iff.1 hj).1
      obtain ⟨b', o', e, hc⟩ := hb j hj'
      simp only [Option.some.injEq, Addr.mk.injEq, and_true] at e
      obtain ⟨rfl, rfl⟩ := e
      rw [vals_at s j hj'] at hj
      rw [Addr.add_lit, hc]
      exact hj
    obtain ⟨v', w', hr, h2, -, -⟩ := run_append_own (P := Try.prog) w b0 28 ty 5 i0 (.int .u8 0) 1 1 Try.underlying28 hi hz0 hz1 hz2 rfl (by decide) _ 0 [] hown ⟨b, o, none⟩ s.size cap (vals s) (by rw [vals_len]; omega) hnews (vals_one s) (by unfold maxLen; omega) (by omega) hb0
    have hgrow := run_append_grow (P := Try.prog) w 28 ty 5 i0 (.int .u8 0) Try.underlying28 hi hz0 ⟨g, 0, none⟩ 0 0 [] (by simp) (fun j u h => by simp at h) ⟨b, o, none⟩ s.size cap (vals s) hl hnews (by omega) (by omega) (growslice_fits (by omega) (by rw [hz2]; omega))
    have e := hr.symm.trans hgrow
    simp only [Result.ok.injEq, Nat.zero_add] at e
    obtain ⟨e1, e2⟩ := e
    subst e1
    refine ⟨_, _, w', hr, by simpa using h2, ?_⟩
    rw [e2]
    exact (Keep.drewN _ _ 1).trans (Keep.alloc _ _ _)
theorem wpList_copy_bs {w : World} {ops : Array Oper} {rest : List Oper} {o : Oper} {a : Act} {Q : Exit → Act → World → Prop} (hgd : o.guard = none) (s x : Operand)
    (ho : o.op = .call { callee := .builtin .append, args := #[s, x], argTypes := #[28, 28] })
    (b0 g : Nat) (bs : ByteArray) (ad : Option Addr) (cap : Nat) (hs : a.eval s = .slice (some ⟨g, 0, none⟩) 0 0) (hx : a.eval x = .slice ad bs.size cap) (hb0 : b0 ≤ w.heap.size) (hgb : b0 ≤ g) (hg : w.heap[g]? = some (.cells #[] 5 (0, 0))) (hb : Bs w ad bs) (hn : bs.size ≤ 1000000)
    (h : ∀ g' cap' w', w'.ownsRow b0 5 1 (.slice (some ⟨g', 0, none⟩) bs.size cap') bs.size (vals bs) → Keep (fun _ => False) w w' → wpList Try.prog ops Q rest (a.put o.dst (.slice (some ⟨g', 0, none⟩) bs.size cap')) w') : wpList Try.prog ops Q (o :: rest) a w := by
  refine wpList_plain hgd fun K hK => ?_
  obtain ⟨g', cap', w', hrun, h1, h2⟩ := run_copy_bs o.type b0 g bs ad cap w hb0 hgb hg hb hn
  unfold Oper.wp
  have hex : (execOp a.eval o).run Try.prog w = .ok (.value (.slice (some ⟨g', 0, none⟩) bs.size cap')) w' := by
    unfold execOp
    simp only [ho, resolve, invoke, builtin, Sem.run_bind, Sem.run_pure, Result.andThen_ok, List.map_toArray, List.map_cons, List.map_nil, hs, hx, hrun]
  rw [hex]
  exact hK _ _ (h _ _ _ h1 h2)
end Go.Proofs.Ythcagpgdekhaeaa
