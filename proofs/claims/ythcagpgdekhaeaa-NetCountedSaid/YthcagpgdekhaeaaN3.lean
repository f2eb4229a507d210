/- A packet is put at the end, walked. -/
import Derived.Test.YthcagpgdekhaeaaN2
import Derived.OwnWalk
import Derived.Deep.AppendLies
namespace Go.Proofs.Ythcagpgdekhaeaa
open Go.RowKit
theorem Try.info34 : (Try.prog.info? 34).map (fun i => (i.zero, i.size, i.bytes)) = some (some (.agg #[.int .i64 0, .string ⟨#[]⟩]), 2, 24) := by kernel_rfl
theorem two_news {w : World} {lb : Nat} {f : Int} {s : ByteArray} (h : w.heap[lb]? = some (.cells #[.int .i64 f, .string s] 34 (0, 0))) : ∀ j u, [Value.int .i64 f, .string s][j]? = some u → w.cell? ((⟨lb, 0, none⟩ : Addr).add j) = some u := by
  intro j u hj
  rw [add_none, Nat.zero_add, cell_of h]
  match j, hj with
  | 0, hj => simpa using hj
  | 1, hj => simpa using hj
theorem two_one (f : Int) (s : ByteArray) : ∀ u ∈ [Value.int .i64 f, .string s], u.oneCell' = true := by
  intro u hu
  simp at hu
  rcases hu with rfl | rfl <;> rfl
theorem ownsRow_keep' {S : Nat → Prop} {w w' : World} {base : Nat} {e : TypeId} {size : Nat} {v : Value} {n : Nat} {xs : List Value} (h : w.ownsRow base e size v n xs) (k : Keep S w w') (hs : ∀ i, v.ownBlock = some i → ¬ S i) : w'.ownsRow base e size v n xs := by
  refine ⟨h.1, ?_⟩
  rcases h.2 with hn | ⟨g, cap, cur, rfl, hb, hg, rest⟩
  · exact .inl hn
  · exact .inr ⟨g, cap, cur, rfl, hb, k.heap hg (hs g rfl), rest⟩
/-- Where the row lies behind a step: where it lay, or in a new block. -/
def Moved (w : World) (v v' : Value) : Prop := v'.ownBlock = v.ownBlock ∨ ∃ g, w.heap.size ≤ g ∧ v'.ownBlock = some g
theorem put_full (kd : Int) (nb base : Nat) (most : Int) (v : Value) (ps : List Pk) (c0 c1 c2 c3 : Int) (lb cap : Nat) (w : World) (h : NetAt w nb base most v ps c0 c1 c2 c3) (hr : most ≤ ps.length) (h64 : ps.length ≤ 64) :
    Calls Try.prog 24 #[.pointer (some ⟨nb, 0, none⟩), .int .i64 kd, .slice (some ⟨lb, 0, none⟩) 1 cap] w fun e w' => e = .returned (.int .i64 210) ∧ Keep (fun _ => False) w w' := by
  obtain ⟨a, cp, rfl, h1, h2⟩ := h.slice
  obtain ⟨d0, d1, _⟩ := h.cells
  unfold maxLen at h2
  have hlt : most < (ps.length : Int) + 1 := by omega
  generalize ps.length = n at *
  clear h
  go_enter Try.func24, Try.ntmps24
  go_wp2_with fail
  go_quiet (fail)
  go_wp2_with fail
  go_ret
  exact ⟨rfl, Keep.drewN _ _ _⟩
theorem Keep.two {S : Nat → Prop} {w : World} {p q : Addr} (u v : Value) (hp : S p.block) (hq : S q.block) : Keep S w ((w.setCell p u).setCell q v) := (Keep.setCell w u hp).trans (Keep.setCell _ v hq)
set_option maxHeartbeats 1000000 in
theorem put_sent (nb base : Nat) (most : Int) (v : Value) (ps : List Pk) (c0 c1 c2 c3 : Int) (lb cap0 : Nat) (f : Int) (s : ByteArray) (w : World) (h : NetAt w nb base most v ps c0 c1 c2 c3) (hl : w.heap[lb]? = some (.cells #[.int .i64 f, .string s] 34 (0, 0)))
    (hr : (ps.length : Int) < most) (h64 : most ≤ 64) (hb : base ≤ w.heap.size) (hc0 : 0 ≤ c0) (hc1 : c0 ≤ 1000000000) :
    Calls Try.prog 24 #[.pointer (some ⟨nb, 0, none⟩), .int .i64 0, .slice (some ⟨lb, 0, none⟩) 1 cap0] w fun e w' => ∃ v', e = .returned (.int .i64 0) ∧ NetAt w' nb base most v' (ps ++ [(f, s)]) (c0 + 1) c1 c2 c3 ∧ Moved w v v' ∧ Keep (fun i => i = nb ∨ v.ownBlock = some i) w w' := by
  obtain ⟨i0, hi, hz0, hz1, hz2⟩ := info_parts Try.info34
  have hne : v.ownBlock ≠ some nb := by
    intro e
    rcases h.row.2 with ⟨rfl, _⟩ | ⟨g, cap, cur, rfl, _, hg, _⟩
    · simp [Value.ownBlock] at e
    · simp [Value.ownBlock] at e
      subst e
      have := h.block
      rw [hg] at this
      simp at this
  have HH := Lib.hid h
  have HL := Lib.hid hl
  have hnb : nb < w.heap.size := lt_of_block h.block
  obtain ⟨a, cp, hv, h1, h2⟩ := h.slice
  have HV := Lib.hid hv
  obtain ⟨d0, d1, _⟩ := h.cells
  rw [hv] at d1
  have hn64 : ps.length ≤ 64 := by omega
  unfold maxLen at h2
  have hlt : ¬ most < (ps.length : Int) + 1 := by omega
  have H1 : Hid ((flat (ps ++ [(f, s)])) = flat ps ++ [.int .i64 f, .string s]) := by rw [flat_append]; rfl
  have HN := Lib.hid hne
  clear h hl hne hv
  go_enter Try.func24, Try.ntmps24
  go_wp2_with fail
  go_quiet (fail)
  have HO : Hid ((w.drewN nq).ownsRow base 34 2 (.slice a ps.length cp) ps.length (flat ps)) := by rw [← HV.out]; exact (HH.out.keep0 (Keep.drewN _ _ _)).row
  have HB : Hid ((w.drewN nq).heap[nb]? = some (.cells #[.int .i64 most, .slice a ps.length cp, .int .i64 c0, .int .i64 c1, .int .i64 c2, .int .i64 c3] 56 (0, 0))) := by rw [← HV.out]; exact HH.out.block
  have HL2 : Hid ((w.drewN nq).heap[lb]? = some (.cells #[.int .i64 f, .string s] 34 (0, 0))) := HL.out
  have HN2 : Hid (Value.ownBlock (.slice a ps.length cp) ≠ some nb) := by rw [← HV.out]; exact HN.out
  have KD : Hid (Keep (fun _ => False) w (w.drewN nq)) := Keep.drewN _ _ _
  have hsz : w.heap.size = (w.drewN nq).heap.size := rfl
  have HSZ := Lib.hid hsz
  clear hsz
  clear d0 d1
  generalize w.drewN nq = W at *
  have e1 : W.cell? ⟨nb, 1, none⟩ = some (.slice a ps.length cp) := cell_of HB.out 1
  go_wp2_with (at_builtin; refine wpList_append_lies _ rfl _ _ 27 rfl base 34 i0 (.agg #[.int .i64 0, .string ⟨#[]⟩]) 2 24 Try.underlying27 hi hz0 hz1 hz2 rfl (by decide) _ _ _ rfl HO.out ⟨lb, 0, none⟩ 1 cap0 [.int .i64 f, .string s] rfl rfl (two_news HL2.out) (two_one f s) (by decide) ?c3 ?c4 ?c5 W.heap.size rfl ?_)
  case c3 => unfold maxLen; omega
  case c4 => omega
  case c5 => rw [← HSZ.out]; exact hb
  intro g cp' w1 hown hgrow hat hlt1
  have B1 : Hid (w1.heap[nb]? = some (.cells #[.int .i64 most, .slice a ps.length cp, .int .i64 c0, .int .i64 c1, .int .i64 c2, .int .i64 c3] 56 (0, 0))) := (hgrow.block nb (lt_of_block HB.out) (fun e => HN2.out e.symm)).trans HB.out
  have e2 : w1.cell? ⟨nb, 1, none⟩ = some (.slice a ps.length cp) := cell_of B1.out 1
  have e3 : w1.frozen? ⟨nb, 1, none⟩ = false := free_of B1.out 1
  have OWN := Lib.hid hown
  have GR := Lib.hid hgrow
  have AT := Lib.hid hat
  have LT1 := Lib.hid hlt1
  have B2 : Hid ((w1.setCell ⟨nb, 1, none⟩ (.slice (some ⟨g, 0, none⟩) (ps.length + 1) cp')).heap[nb]? = some (.cells #[.int .i64 most, .slice (some ⟨g, 0, none⟩) (ps.length + 1) cp', .int .i64 c0, .int .i64 c1, .int .i64 c2, .int .i64 c3] 56 (0, 0))) := heap_setCell_at B1.out
  clear hown hgrow hat hlt1 e1
  go_wp2_with (go_at_call 38; refine (add_any nb 2 c0 1 _ (cell_of B2.out 2) (free_of B2.out 2) hc0 hc1 (by decide) (by decide)).mono ?_; rintro e wz ⟨rfl, rfl⟩)
  go_ret
  have hgn : g ≠ nb := by
    rcases AT.out with h | h
    · intro e
      subst e
      exact HN2.out h
    · have := lt_of_block HB.out
      omega
  have B3 := heap_setCell_at (v := .int .i64 (c0 + 1)) (i := 2) B2.out
  have K1 : Keep (fun i => i = nb) w1 ((w1.setCell ⟨nb, 1, none⟩ (.slice (some ⟨g, 0, none⟩) (ps.length + 1) cp')).setCell ⟨nb, 2, none⟩ (.int .i64 (c0 + 1))) := Keep.two _ _ rfl rfl
  refine ⟨.slice (some ⟨g, 0, none⟩) (ps.length + 1) cp', rfl, ⟨B3, ?_⟩, ?_, ?_⟩
  · rw [H1.out, List.length_append, List.length_cons, List.length_nil, Nat.zero_add]
    exact ownsRow_keep' OWN.out K1 (fun i hi e => hgn (by simp [Value.ownBlock] at hi; omega))
  · rw [Moved, HV.out]
    rcases AT.out with h | h
    · exact .inl h.symm
    · exact .inr ⟨g, by rw [HSZ.out, h]; exact Nat.le_refl _, rfl⟩
  · have := (KD.out.mono (S' := fun i => i = nb ∨ v.ownBlock = some i) (fun _ h => h.elim)).trans ((Keep.grown GR.out).mono (S' := fun i => i = nb ∨ v.ownBlock = some i) (fun i h => .inr (by rw [HV.out]; exact h)))
    exact this.trans (K1.mono (fun _ h => .inl h))
set_option maxHeartbeats 1000000 in
theorem put_doubled (nb base : Nat) (most : Int) (v : Value) (ps : List Pk) (c0 c1 c2 c3 : Int) (lb cap0 : Nat) (f : Int) (s : ByteArray) (w : World) (h : NetAt w nb base most v ps c0 c1 c2 c3) (hl : w.heap[lb]? = some (.cells #[.int .i64 f, .string s] 34 (0, 0)))
    (hr : (ps.length : Int) < most) (h64 : most ≤ 64) (hb : base ≤ w.heap.size) (hc0 : 0 ≤ c3) (hc1 : c3 ≤ 1000000000) :
    Calls Try.prog 24 #[.pointer (some ⟨nb, 0, none⟩), .int .i64 3, .slice (some ⟨lb, 0, none⟩) 1 cap0] w fun e w' => ∃ v', e = .returned (.int .i64 0) ∧ NetAt w' nb base most v' (ps ++ [(f, s)]) c0 c1 c2 (c3 + 1) ∧ Moved w v v' ∧ Keep (fun i => i = nb ∨ v.ownBlock = some i) w w' := by
  obtain ⟨i0, hi, hz0, hz1, hz2⟩ := info_parts Try.info34
  have hne : v.ownBlock ≠ some nb := by
    intro e
    rcases h.row.2 with ⟨rfl, _⟩ | ⟨g, cap, cur, rfl, _, hg, _⟩
    · simp [Value.ownBlock] at e
    · simp [Value.ownBlock] at e
      subst e
      have := h.block
      rw [hg] at this
      simp at this
  have HH := Lib.hid h
  have HL := Lib.hid hl
  have hnb : nb < w.heap.size := lt_of_block h.block
  obtain ⟨a, cp, hv, h1, h2⟩ := h.slice
  have HV := Lib.hid hv
  obtain ⟨d0, d1, _⟩ := h.cells
  rw [hv] at d1
  have hn64 : ps.length ≤ 64 := by omega
  unfold maxLen at h2
  have hlt : ¬ most < (ps.length : Int) + 1 := by omega
  have H1 : Hid ((flat (ps ++ [(f, s)])) = flat ps ++ [.int .i64 f, .string s]) := by rw [flat_append]; rfl
  have HN := Lib.hid hne
  clear h hl hne hv
  go_enter Try.func24, Try.ntmps24
  go_wp2_with fail
  go_quiet (fail)
  have HO : Hid ((w.drewN nq).ownsRow base 34 2 (.slice a ps.length cp) ps.length (flat ps)) := by rw [← HV.out]; exact (HH.out.keep0 (Keep.drewN _ _ _)).row
  have HB : Hid ((w.drewN nq).heap[nb]? = some (.cells #[.int .i64 most, .slice a ps.length cp, .int .i64 c0, .int .i64 c1, .int .i64 c2, .int .i64 c3] 56 (0, 0))) := by rw [← HV.out]; exact HH.out.block
  have HL2 : Hid ((w.drewN nq).heap[lb]? = some (.cells #[.int .i64 f, .string s] 34 (0, 0))) := HL.out
  have HN2 : Hid (Value.ownBlock (.slice a ps.length cp) ≠ some nb) := by rw [← HV.out]; exact HN.out
  have KD : Hid (Keep (fun _ => False) w (w.drewN nq)) := Keep.drewN _ _ _
  have hsz : w.heap.size = (w.drewN nq).heap.size := rfl
  have HSZ := Lib.hid hsz
  clear hsz
  clear d0 d1
  generalize w.drewN nq = W at *
  have e1 : W.cell? ⟨nb, 1, none⟩ = some (.slice a ps.length cp) := cell_of HB.out 1
  go_wp2_with (at_builtin; refine wpList_append_lies _ rfl _ _ 27 rfl base 34 i0 (.agg #[.int .i64 0, .string ⟨#[]⟩]) 2 24 Try.underlying27 hi hz0 hz1 hz2 rfl (by decide) _ _ _ rfl HO.out ⟨lb, 0, none⟩ 1 cap0 [.int .i64 f, .string s] rfl rfl (two_news HL2.out) (two_one f s) (by decide) ?c3 ?c4 ?c5 W.heap.size rfl ?_)
  case c3 => unfold maxLen; omega
  case c4 => omega
  case c5 => rw [← HSZ.out]; exact hb
  intro g cp' w1 hown hgrow hat hlt1
  have B1 : Hid (w1.heap[nb]? = some (.cells #[.int .i64 most, .slice a ps.length cp, .int .i64 c0, .int .i64 c1, .int .i64 c2, .int .i64 c3] 56 (0, 0))) := (hgrow.block nb (lt_of_block HB.out) (fun e => HN2.out e.symm)).trans HB.out
  have e2 : w1.cell? ⟨nb, 1, none⟩ = some (.slice a ps.length cp) := cell_of B1.out 1
  have e3 : w1.frozen? ⟨nb, 1, none⟩ = false := free_of B1.out 1
  have OWN := Lib.hid hown
  have GR := Lib.hid hgrow
  have AT := Lib.hid hat
  have LT1 := Lib.hid hlt1
  have B2 : Hid ((w1.setCell ⟨nb, 1, none⟩ (.slice (some ⟨g, 0, none⟩) (ps.length + 1) cp')).heap[nb]? = some (.cells #[.int .i64 most, .slice (some ⟨g, 0, none⟩) (ps.length + 1) cp', .int .i64 c0, .int .i64 c1, .int .i64 c2, .int .i64 c3] 56 (0, 0))) := heap_setCell_at B1.out
  clear hown hgrow hat hlt1 e1
  go_wp2_with (go_at_call 38; refine (add_any nb 5 c3 1 _ (cell_of B2.out 5) (free_of B2.out 5) hc0 hc1 (by decide) (by decide)).mono ?_; rintro e wz ⟨rfl, rfl⟩)
  go_ret
  have hgn : g ≠ nb := by
    rcases AT.out with h | h
    · intro e
      subst e
      exact HN2.out h
    · have := lt_of_block HB.out
      omega
  have B3 := heap_setCell_at (v := .int .i64 (c3 + 1)) (i := 5) B2.out
  have K1 : Keep (fun i => i = nb) w1 ((w1.setCell ⟨nb, 1, none⟩ (.slice (some ⟨g, 0, none⟩) (ps.length + 1) cp')).setCell ⟨nb, 5, none⟩ (.int .i64 (c3 + 1))) := Keep.two _ _ rfl rfl
  refine ⟨.slice (some ⟨g, 0, none⟩) (ps.length + 1) cp', rfl, ⟨B3, ?_⟩, ?_, ?_⟩
  · rw [H1.out, List.length_append, List.length_cons, List.length_nil, Nat.zero_add]
    exact ownsRow_keep' OWN.out K1 (fun i hi e => hgn (by simp [Value.ownBlock] at hi; omega))
  · rw [Moved, HV.out]
    rcases AT.out with h | h
    · exact .inl h.symm
    · exact .inr ⟨g, by rw [HSZ.out, h]; exact Nat.le_refl _, rfl⟩
  · have := (KD.out.mono (S' := fun i => i = nb ∨ v.ownBlock = some i) (fun _ h => h.elim)).trans ((Keep.grown GR.out).mono (S' := fun i => i = nb ∨ v.ownBlock = some i) (fun i h => .inr (by rw [HV.out]; exact h)))
    exact this.trans (K1.mono (fun _ h => .inl h))
end Go.Proofs.Ythcagpgdekhaeaa
