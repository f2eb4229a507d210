/- Rows of cells and of numbers, for JoinLess. -/
import Derived.Deep.AppendLies
import Derived.Test.YtfoklfifgmacfaaE5
namespace Go.Proofs.Ytfoklfifgmacfaa
open Go.RowKit
theorem info27 : (Try.prog.info? 27).map (fun i => (i.zero, i.size, i.bytes)) = some (some (.agg #[.int .i64 0, .int .i64 0, .int .i64 0, .int .i64 0, .bool false, .string ⟨#[]⟩, .int .i64 0, .int .i64 0]), 8, 72) := by kernel_rfl
def C.vs (x : C) : List Value := [.int .i64 x.n, .int .i64 x.s, .int .i64 x.v0, .int .i64 x.v1, .bool x.gone, .string x.value, .int .i64 x.d0, .int .i64 x.d1]
def flat (l : List C) : List Value := l.flatMap C.vs
theorem flat_len (l : List C) : (flat l).length = l.length * 8 := by
  induction l with
  | nil => rfl
  | cons x l ih => show (x.vs ++ flat l).length = _; rw [List.length_append, ih]; simp [C.vs]; omega
theorem flat_snoc (l : List C) (x : C) : flat (l ++ [x]) = flat l ++ x.vs := by unfold flat; rw [List.flatMap_append]; simp
theorem flat_at : ∀ (l : List C) (i : Nat) (x : C) (j : Nat), l[i]? = some x → j < 8 → (flat l)[i * 8 + j]? = x.vs[j]? := by
  intro l
  induction l with
  | nil => intro i x j h; simp at h
  | cons y l ih =>
    intro i x j h hj
    show (y.vs ++ flat l)[i * 8 + j]? = _
    cases i with
    | zero =>
      simp at h; subst h
      rw [List.getElem?_append_left (by simp [C.vs]; omega)]; simp
    | succ i =>
      rw [List.getElem?_append_right (by simp [C.vs]; omega)]
      have e : (i + 1) * 8 + j - y.vs.length = i * 8 + j := by simp [C.vs]; omega
      rw [e]; exact ih i x j (by simpa using h) hj
theorem cs_of_row {w : World} {base : Nat} {a : Option Addr} {n cap : Nat} {l : List C} (h : w.ownsRow base 27 8 (.slice a n cap) l.length (flat l)) : Cs w a l := by
  intro i x hx
  have hi : i < l.length := (List.getElem?_eq_some_iff.1 hx).1
  rcases h.2 with ⟨_, h0⟩ | ⟨g, cp, cur, e, _, hg, hc, _, hs, ht⟩
  · omega
  · simp only [Value.slice.injEq] at e
    obtain ⟨rfl, rfl, rfl⟩ := e
    have key : ∀ j, j < 8 → ∀ v, x.vs[j]? = some v → w.cell? ⟨g, 0 + i * 8 + j, none⟩ = some v := by
      intro j hj v hv
      rw [cell_of hg]
      have h1 : (cur.toList.take (l.length * 8))[i * 8 + j]? = some v := by rw [ht, flat_at l i x j hx hj, hv]
      rw [List.getElem?_take, if_pos (by omega)] at h1
      rw [Nat.zero_add]
      simpa using h1
    exact ⟨g, 0, rfl, key 0 (by omega) _ rfl, key 1 (by omega) _ rfl, key 2 (by omega) _ rfl, key 3 (by omega) _ rfl, key 4 (by omega) _ rfl, key 5 (by omega) _ rfl, key 6 (by omega) _ rfl, key 7 (by omega) _ rfl⟩
theorem eight_cells {w : World} {b : Nat} {x : C} (h : w.heap[b]? = some (.cells #[.int .i64 x.n, .int .i64 x.s, .int .i64 x.v0, .int .i64 x.v1, .bool x.gone, .string x.value, .int .i64 x.d0, .int .i64 x.d1] 27 (0, 0))) : ∀ j u, x.vs[j]? = some u → w.cell? ((⟨b, 0, none⟩ : Addr).add j) = some u := by
  intro j u hj
  rw [add_none, Nat.zero_add, cell_of h]
  match j, hj with
  | 0, hj | 1, hj | 2, hj | 3, hj | 4, hj | 5, hj | 6, hj | 7, hj => simpa [C.vs] using hj
theorem vs_one (x : C) : ∀ u ∈ x.vs, u.oneCell' = true := by
  intro u hu
  simp only [C.vs, List.mem_cons, List.not_mem_nil, or_false] at hu
  rcases hu with rfl | rfl | rfl | rfl | rfl | rfl | rfl | rfl <;> rfl
/-- The numbers of an owned row. -/
theorem ns_of_row {w : World} {base : Nat} {a : Option Addr} {n cap : Nat} {l : List Nat} (h : w.ownsRow base 3 1 (.slice a n cap) l.length (l.map fun (i : Nat) => Value.int .i64 (i : Int))) {i x : Nat} (hx : l[i]? = some x) :
    ∃ g, a = some ⟨g, 0, none⟩ ∧ w.cell? ⟨g, i, none⟩ = some (.int .i64 (x : Int)) := by
  have hi : i < l.length := (List.getElem?_eq_some_iff.1 hx).1
  rcases h.2 with ⟨_, h0⟩ | ⟨g, cp, cur, e, _, hg, hc, _, hs, ht⟩
  · omega
  · simp only [Value.slice.injEq] at e
    obtain ⟨rfl, rfl, rfl⟩ := e
    refine ⟨g, rfl, ?_⟩
    rw [cell_of hg]
    have h1 : (cur.toList.take (l.length * 1))[i]? = some (Value.int .i64 (x : Int)) := by rw [ht, List.getElem?_map, hx]; rfl
    rw [List.getElem?_take, if_pos (by omega)] at h1
    simpa using h1
theorem row_len {w : World} {base : Nat} {a : Option Addr} {n cap m : Nat} {e size : Nat} {xs : List Value} (h : w.ownsRow base e size (.slice a n cap) m xs) : n = m ∧ m ≤ cap := by
  rcases h.2 with ⟨e, h0⟩ | ⟨g, cp, cur, e, _, hg, hc, _, hs, ht⟩
  · simp only [Value.slice.injEq] at e; omega
  · simp only [Value.slice.injEq] at e
    obtain ⟨rfl, rfl, rfl⟩ := e; exact ⟨rfl, hc⟩
theorem need_len (l : List C) : ∀ k, (need l k).length ≤ k := by
  intro k
  induction k with
  | zero => exact Nat.le_refl _
  | succ k ih =>
    rw [need]; split
    · omega
    · rw [List.length_append, List.length_singleton]; omega
theorem need_sorted (l : List C) : ∀ k, (need l k).Pairwise (· < ·) := by
  intro k
  induction k with
  | zero => exact List.Pairwise.nil
  | succ k ih =>
    rw [need]
    split
    · exact ih
    · rw [List.pairwise_append]
      exact ⟨ih, List.pairwise_singleton _ _, fun a ha b hb => by have h1 := need_lt l k a ha; simp at hb; omega⟩
theorem sorted_next {l : List Nat} (h : l.Pairwise (· < ·)) {m x y : Nat} (hx : l[m]? = some x) (hy : l[m + 1]? = some y) : x < y := by
  obtain ⟨h1, rfl⟩ := List.getElem?_eq_some_iff.1 hx
  obtain ⟨h2, rfl⟩ := List.getElem?_eq_some_iff.1 hy
  exact List.pairwise_iff_getElem.1 h m (m + 1) h1 h2 (Nat.lt_succ_self m)
theorem take_snoc {α : Type} {l : List α} {m : Nat} {x : α} (h : l[m]? = some x) : l.take (m + 1) = l.take m ++ [x] := by
  rw [List.take_add_one, h]; rfl
theorem good_policy {p : Int} {c : C} (h : c.good p = true) : p = 1 ∨ p = 2 := by
  unfold C.good at h
  by_cases h1 : p = 1
  · exact .inl h1
  · by_cases h2 : p = 2
    · exact .inr h2
    · rw [if_neg h1, if_neg h2] at h; cases h
/-- Some policy by which all may be: of no cells at all, any. -/
theorem policy_of (p : Int) (l : List C) (h : ∀ c ∈ l, c.good p = true) : ∃ q : Int, (q = 1 ∨ q = 2) ∧ ∀ c ∈ l, c.good q = true := by
  cases l with
  | nil => exact ⟨1, .inl rfl, fun c hc => by cases hc⟩
  | cons c l => exact ⟨p, good_policy (h c (List.mem_cons_self ..)), h⟩
theorem some_good {q : Int} {l : List C} (h : ∀ c ∈ l, c.good q = true) : ∀ c ∈ some_ l l.length, c.good q = true := by
  intro c hc
  obtain ⟨i, hi, rfl⟩ := List.mem_map.1 hc
  exact h _ (List.mem_of_getElem? (getD_at (need_lt l _ i hi)))
/-- A cell is appended to an owned row of cells. -/
theorem append_cell {ops : Array Oper} {rest : List Oper} {o : Oper} {a : Act} {w : World} {Q : Exit → Act → World → Prop} (hgd : o.guard = none) (s x : Operand) (ho : o.op = .call { callee := .builtin .append, args := #[s, x], argTypes := #[28, 28] })
    (base m c2 : Nat) (a2 : Option Addr) (l : List C) (y : C) (hs : a.eval s = .slice a2 m c2) (hown : w.ownsRow base 27 8 (.slice a2 m c2) m (flat l)) (hx : a.eval x = .slice (some ⟨w.heap.size, 0, none⟩) 1 1)
    (hm : m ≤ 1000000) (hb : base ≤ w.heap.size)
    (h : ∀ g cap w', w'.ownsRow base 27 8 (.slice (some ⟨g, 0, none⟩) (m + 1) cap) (m + 1) (flat (l ++ [y])) → Keep (fun i => base ≤ i) w w' → wpList Try.prog ops Q rest (a.put o.dst (.slice (some ⟨g, 0, none⟩) (m + 1) cap)) w') :
    wpList Try.prog ops Q (o :: rest) a (w.alloc (Obj.cells #[.int .i64 y.n, .int .i64 y.s, .int .i64 y.v0, .int .i64 y.v1, .bool y.gone, .string y.value, .int .i64 y.d0, .int .i64 y.d1] 27)) := by
  obtain ⟨i0, hi, hz, hs8, hby⟩ := info_parts info27
  refine wpList_append_lies _ hgd s x 28 ho base 27 i0 (.agg #[.int .i64 0, .int .i64 0, .int .i64 0, .int .i64 0, .bool false, .string ⟨#[]⟩, .int .i64 0, .int .i64 0]) 8 72 Try.underlying28 hi hz hs8 hby rfl (by decide) (.slice a2 m c2) m _ hs (hown.alloc _) ⟨w.heap.size, 0, none⟩ 1 1 y.vs hx rfl (eight_cells (heap_alloc_new _ _)) (vs_one y) (by decide) (by unfold maxLen; omega) (by omega) (by simp; omega) _ rfl ?_
  intro g cap w' h1 h2 _ _
  exact h g cap w' (by rw [flat_snoc]; exact h1) ((Keep.alloc _ w _).trans ((Keep.grown h2).mono fun i hi => ((hown.alloc (Obj.cells #[.int .i64 y.n, .int .i64 y.s, .int .i64 y.v0, .int .i64 y.v1, .bool y.gone, .string y.value, .int .i64 y.d0, .int .i64 y.d1] 27)).lt i hi).1))
end Go.Proofs.Ytfoklfifgmacfaa
