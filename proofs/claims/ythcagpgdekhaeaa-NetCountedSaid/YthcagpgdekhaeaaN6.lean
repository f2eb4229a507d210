/- A packet goes out of the row, walked. -/
import Derived.Test.YthcagpgdekhaeaaN5
import Derived.Laws.CopyOwn
import Derived.StillTailTactics
namespace Go.Proofs.Ythcagpgdekhaeaa
open Go.RowKit
theorem run_copy_two {P : Program} (w : World) (dT sT ty elem : TypeId) (g o dLen dCap : Nat) (a : Addr) (sLen sCap : Nat) (cur : Array Value) (t : TypeId) (cs : List Value)
    (hu : P.underlying dT = some (.slice elem)) (hs : (P.info? elem).map (·.size) = some 2)
    (hg : w.heap[g]? = some (.cells cur t (0, 0))) (hle : sLen ≤ dLen) (hn : cs.length = sLen * 2)
    (hsrc : ∀ j v, cs[j]? = some v → w.cell? (a.add j) = some v) (hfit : o + cs.length ≤ cur.size) (h1 : ∀ v ∈ cs, v.oneCell' = true) :
    (Builtin.copy_ #[dT, sT] ty #[.slice (some ⟨g, o, none⟩) dLen dCap, .slice (some a) sLen sCap]).run P w =
      .ok (goInt sLen) (w.setRow g (cur.toList.take o ++ cs ++ cur.toList.drop (o + cs.length)).toArray) := by
  have hl := run_loadCells_list (P := P) w a cs hsrc
  have hst := run_storeCells_at P g o t cs 0 cur w hg (by simpa using hfit) h1
  have hm : Nat.min sLen dLen = sLen := Nat.min_eq_left hle
  cases hq : P.info? elem with
  | none => simp [hq] at hs
  | some i =>
    have hi : i.size = 2 := by simpa [hq] using hs
    simp [Builtin.copy_, run_underlying hu, Builtin.lenOf, Builtin.firstCells, sizeOf, typeInfo, hq, hi, hm, ← hn, hl, hst]
theorem wpList_copy_two {P : Program} {w : World} {ops : Array Oper} {rest : List Oper} {o : Oper} {a : Act} {Q : Exit → Act → World → Prop} (hgd : o.guard = none) (d s : Operand) (dT sT : TypeId)
    (ho : o.op = .call { callee := .builtin .copy, args := #[d, s], argTypes := #[dT, sT] }) (elem : TypeId) (hu : P.underlying dT = some (.slice elem)) (hsz : (P.info? elem).map (·.size) = some 2)
    (g off dLen dCap : Nat) (ad : Addr) (sLen sCap : Nat) (hd : a.eval d = .slice (some ⟨g, off, none⟩) dLen dCap) (hs : a.eval s = .slice (some ad) sLen sCap)
    (cur : Array Value) (t : TypeId) (hg : w.heap[g]? = some (.cells cur t (0, 0))) (cs : List Value) (hle : sLen ≤ dLen) (hn : cs.length = sLen * 2)
    (hsrc : ∀ j v, cs[j]? = some v → w.cell? (ad.add j) = some v) (hfit : off + cs.length ≤ cur.size) (h1 : ∀ v ∈ cs, v.oneCell' = true)
    (h : ∀ w', w' = w.setRow g (cur.toList.take off ++ cs ++ cur.toList.drop (off + cs.length)).toArray → wpList P ops Q rest (a.put o.dst (goInt sLen)) w') : wpList P ops Q (o :: rest) a w := by
  refine wpList_plain hgd fun K hK => ?_
  have hrun := run_copy_two (P := P) w dT sT o.type elem g off dLen dCap ad sLen sCap cur t cs hu hsz hg hle hn hsrc hfit h1
  unfold Oper.wp
  have hK' := hK _ _ (h _ rfl)
  have hex : (execOp a.eval o).run P w = .ok (.value (goInt sLen)) (w.setRow g (cur.toList.take off ++ cs ++ cur.toList.drop (off + cs.length)).toArray) := by
    unfold execOp
    simp only [ho, resolve, invoke, builtin, Sem.run_bind, Sem.run_pure, Result.andThen_ok, List.map_toArray, List.map_cons, List.map_nil, hs, hd, hrun]
  rw [hex]
  exact hK'
theorem flat_erase (ps : List Pk) (i : Nat) (hi : i < ps.length) : flat (ps.eraseIdx i) = (flat ps).take (i * 2) ++ (flat ps).drop ((i + 1) * 2) := by
  induction ps generalizing i with
  | nil => simp at hi
  | cons p ps ih =>
    cases i with
    | zero => simp [flat_cons]
    | succ i =>
      rw [List.eraseIdx_cons_succ, flat_cons, flat_cons, ih i (by simpa using hi)]
      have e1 : (i + 1) * 2 = i * 2 + 1 + 1 := by omega
      have e2 : (i + 1 + 1) * 2 = i * 2 + 1 + 1 + 1 + 1 := by omega
      rw [e2, e1]
      simp only [List.take_succ_cons, List.drop_succ_cons, List.cons_append]
theorem one_flat (ps : List Pk) : ∀ u ∈ flat ps, u.oneCell' = true := by
  induction ps with
  | nil => simp [flat]
  | cons p ps ih =>
    intro u hu
    rw [flat_cons] at hu
    simp only [List.mem_cons] at hu
    rcases hu with rfl | rfl | hu
    · rfl
    · rfl
    · exact ih u hu
set_option maxHeartbeats 1000000 in
theorem out_taken (nb base : Nat) (most : Int) (v : Value) (ps : List Pk) (c0 c1 c2 c3 : Int) (i : Nat) (w : World) (h : NetAt w nb base most v ps c0 c1 c2 c3) (hi : i < ps.length) (h64 : ps.length ≤ 64) (hc0 : 0 ≤ c1) (hc1 : c1 ≤ 1000000000) :
    Calls Try.prog 27 #[.pointer (some ⟨nb, 0, none⟩), .int .i64 1, .int .i64 i] w fun e w' => ∃ v', e = .returned (.int .i64 0) ∧ NetAt w' nb base most v' (ps.eraseIdx i) c0 (c1 + 1) c2 c3 ∧ v'.ownBlock = v.ownBlock ∧ Keep (fun i => i = nb ∨ v.ownBlock = some i) w w' := by
  obtain ⟨a, cp, rfl, h1, h2⟩ := h.slice
  obtain ⟨p, hp⟩ : ∃ p, ps[i]? = some p := ⟨_, List.getElem?_eq_getElem hi⟩
  obtain ⟨g, rfl, hgb, hg, hx⟩ := h.packet i p hp
  clear hx
  have d1 := h.cells.2.1
  have HH := Lib.hid h
  have HG := Lib.hid hg
  obtain ⟨cur, hcur, hcs, htk⟩ : ∃ cur, w.heap[g]? = some (.cells cur 34 (0, 0)) ∧ cur.size = cp * 2 ∧ cur.toList.take (ps.length * 2) = flat ps := by
    rcases h.row.2 with ⟨hv, _⟩ | ⟨g', cap', cur, hv, _, hgg, _, _, hs, ht⟩
    · cases hv
    · simp only [Value.slice.injEq, Option.some.injEq, Addr.mk.injEq] at hv
      obtain ⟨⟨rfl, _⟩, _, rfl⟩ := hv
      exact ⟨cur, hgg, hs, ht⟩
  have HC1 := Lib.hid hcur
  have HC2 := Lib.hid hcs
  have HC3 := Lib.hid htk
  clear h hg hp p hcur hcs htk
  unfold maxLen at h2
  have HE : Hid (flat (ps.eraseIdx i) = (flat ps).take (i * 2) ++ (flat ps).drop ((i + 1) * 2)) := flat_erase ps i hi
  have HEL : Hid ((ps.eraseIdx i).length = ps.length - 1) := List.length_eraseIdx_of_lt hi
  obtain ⟨n, hn⟩ : ∃ n, n = ps.length := ⟨_, rfl⟩
  have HN := Lib.hid hn
  rw [← hn] at h1 h64 hi d1
  clear hn
  have q0 : (0 : Int) ≤ (i : Int) := by omega
  have q1 : (i : Int) ≤ (n : Int) := by omega
  have q2 : (0 : Int) ≤ (i : Int) + 1 := by omega
  have q3 : (i : Int) + 1 ≤ (n : Int) := by omega
  have q4 : ((i : Int) + 1).toNat = i + 1 := by omega
  have q5 : IntKind.i64.wrap ((i : Int) + 1) = (i : Int) + 1 := IntWalk.i64_in _ (by omega)
  have hcp : ¬ cp = i := by omega
  have hfl : (flat ps).length = n * 2 := by rw [flat_length, HN.out]
  have HFL := Lib.hid hfl
  clear hfl
  have HS1 : Hid (((flat ps).drop ((i + 1) * 2)).length = (n - (i + 1)) * 2) := by
    show _ = _
    rw [List.length_drop, HFL.out]; omega
  obtain ⟨A, hA, hsrc⟩ : ∃ A : Addr, (if cp = i + 1 then some (⟨g, 0, none⟩ : Addr) else some ⟨g, (i + 1) * 2, none⟩) = some A ∧ Hid (∀ j u, ((flat ps).drop ((i + 1) * 2))[j]? = some u → (w.drewN 1).cell? (A.add j) = some u) := by
    by_cases hc : cp = i + 1
    · refine ⟨⟨g, 0, none⟩, by simp [hc], fun j u hu => ?_⟩
      have h0 : ((flat ps).drop ((i + 1) * 2)).length = 0 := by rw [HS1.out]; omega
      rw [List.length_eq_zero_iff.1 h0] at hu
      simp at hu
    · refine ⟨⟨g, (i + 1) * 2, none⟩, by simp [hc], fun j u hu => ?_⟩
      have hj : j < (n - (i + 1)) * 2 := by rw [← HS1.out]; exact (List.getElem?_eq_some_iff.1 hu).1
      rw [List.getElem?_drop, ← HC3.out, List.getElem?_take, if_pos (by rw [← HN.out]; omega)] at hu
      rw [add_none]
      show w.cell? _ = _
      rw [cell_of HC1.out]
      simpa using hu
  go_enter Try.func27, Try.ntmps27
  go_wp2_with fail
  go_still_tail 13, (by kernel_rfl)
  have HC4 : Hid ((w.drewN 1).heap[g]? = some (.cells cur 34 (0, 0))) := HC1
  have HB0 : Hid ((w.drewN 1).heap[nb]? = some (.cells #[.int .i64 most, .slice (some ⟨g, 0, none⟩) n cp, .int .i64 c0, .int .i64 c1, .int .i64 c2, .int .i64 c3] 56 (0, 0))) := by have := HH.out.block; rw [← HN.out] at this; exact this
  clear d1
  refine wpList_copy_two (w := w.drewN 1) rfl (.tmp 13) (.tmp 20) 27 27 rfl 34 Try.underlying27 (by kernel_rfl) g (i * 2) (n - i) (cp - i) A (n - (i + 1)) (cp - (i + 1)) (by simp [Act.eval]) (by simp [Act.eval]) cur 34 HC4.out ((flat ps).drop ((i + 1) * 2)) (by omega) HS1.out hsrc.out ?_ ?_ ?_
  · rw [HS1.out, HC2.out]; omega
  · intro u hu; exact one_flat ps u (List.mem_of_mem_drop hu)
  intro w1 hw1
  have R1 : Hid (w1.heap[g]? = some (.cells (cur.toList.take (i * 2) ++ (flat ps).drop ((i + 1) * 2) ++ cur.toList.drop (i * 2 + ((flat ps).drop ((i + 1) * 2)).length)).toArray 34 (0, 0))) := by rw [hw1]; exact setRow_heap _ _ _ _ _ _ HC4.out
  have B1 : Hid (w1.heap[nb]? = some (.cells #[.int .i64 most, .slice (some ⟨g, 0, none⟩) n cp, .int .i64 c0, .int .i64 c1, .int .i64 c2, .int .i64 c3] 56 (0, 0))) := by rw [hw1]; exact (setRow_other _ _ _ _ (fun e => HG.out e.symm)).trans HB0.out
  have K1 : Hid (Keep (fun k => k = g) w w1) := by
    rw [hw1]
    exact ⟨rfl, rfl, rfl, by simp [World.setRow, World.drewN], fun k _ hk => setRow_other _ _ _ _ hk⟩
  clear hw1 HC4 HB0
  have e1 : w1.cell? ⟨nb, 1, none⟩ = some (.slice (some ⟨g, 0, none⟩) n cp) := cell_of B1.out 1
  have e2 : w1.frozen? ⟨nb, 1, none⟩ = false := free_of B1.out 1
  have B2 : Hid ((w1.setCell ⟨nb, 1, none⟩ (.slice (some ⟨g, 0, none⟩) (i + (n - (i + 1))) cp)).heap[nb]? = some (.cells #[.int .i64 most, .slice (some ⟨g, 0, none⟩) (i + (n - (i + 1))) cp, .int .i64 c0, .int .i64 c1, .int .i64 c2, .int .i64 c3] 56 (0, 0))) := heap_setCell_at B1.out
  clear hA
  go_wp2_with (go_at_call 38; refine (add_any nb 3 c1 1 _ (cell_of B2.out 3) (free_of B2.out 3) hc0 hc1 (by decide) (by decide)).mono ?_; rintro e wz ⟨rfl, rfl⟩)
  go_ret
  have B3 := heap_setCell_at (v := .int .i64 (c1 + 1)) (i := 3) B2.out
  have K2 : Keep (fun i => i = nb) w1 ((w1.setCell ⟨nb, 1, none⟩ (.slice (some ⟨g, 0, none⟩) (i + (n - (i + 1))) cp)).setCell ⟨nb, 3, none⟩ (.int .i64 (c1 + 1))) := Keep.two _ _ rfl rfl
  have hl : i + (n - (i + 1)) = (ps.eraseIdx i).length := by rw [HEL.out, ← HN.out]; omega
  refine ⟨.slice (some ⟨g, 0, none⟩) (i + (n - (i + 1))) cp, rfl, ⟨B3, ?_⟩, rfl, ?_⟩
  · have hx := HS1.out
    have hy := HFL.out
    have hz := HC2.out
    have htk : (cur.toList.take (i * 2)) = (flat ps).take (i * 2) := by
      rw [← HC3.out, List.take_take]
      congr 1
      rw [← HN.out]; omega
    refine ⟨flat_length _, .inr ⟨g, cp, _, by rw [hl], hgb, (K2.heap R1.out HG.out), by rw [← hl]; omega, by unfold maxLen; omega, ?_, ?_⟩⟩
    · simp only [List.size_toArray, List.length_append, List.length_take, List.length_drop, Array.length_toList, hy, hz]
      omega
    · rw [HE.out, htk, ← hl, List.append_assoc, ← List.append_assoc]
      have hlen : ((flat ps).take (i * 2) ++ (flat ps).drop ((i + 1) * 2)).length = (i + (n - (i + 1))) * 2 := by
        rw [List.length_append, hx, List.length_take, hy]; omega
      rw [← hlen]
      exact List.take_left
  · have hk := (K1.out.mono (S' := fun k => k = nb ∨ (Value.slice (some ⟨g, 0, none⟩) ps.length cp).ownBlock = some k) (fun k hk => .inr (by simp [Value.ownBlock, hk])))
    exact hk.trans (K2.mono (fun _ h => .inl h))
set_option maxHeartbeats 1000000 in
theorem out_dropped (nb base : Nat) (most : Int) (v : Value) (ps : List Pk) (c0 c1 c2 c3 : Int) (i : Nat) (w : World) (h : NetAt w nb base most v ps c0 c1 c2 c3) (hi : i < ps.length) (h64 : ps.length ≤ 64) (hc0 : 0 ≤ c2) (hc1 : c2 ≤ 1000000000) :
    Calls Try.prog 27 #[.pointer (some ⟨nb, 0, none⟩), .int .i64 2, .int .i64 i] w fun e w' => ∃ v', e = .returned (.int .i64 0) ∧ NetAt w' nb base most v' (ps.eraseIdx i) c0 c1 (c2 + 1) c3 ∧ v'.ownBlock = v.ownBlock ∧ Keep (fun i => i = nb ∨ v.ownBlock = some i) w w' := by
  obtain ⟨a, cp, rfl, h1, h2⟩ := h.slice
  obtain ⟨p, hp⟩ : ∃ p, ps[i]? = some p := ⟨_, List.getElem?_eq_getElem hi⟩
  obtain ⟨g, rfl, hgb, hg, hx⟩ := h.packet i p hp
  clear hx
  have d1 := h.cells.2.1
  have HH := Lib.hid h
  have HG := Lib.hid hg
  obtain ⟨cur, hcur, hcs, htk⟩ : ∃ cur, w.heap[g]? = some (.cells cur 34 (0, 0)) ∧ cur.size = cp * 2 ∧ cur.toList.take (ps.length * 2) = flat ps := by
    rcases h.row.2 with ⟨hv, _⟩ | ⟨g', cap', cur, hv, _, hgg, _, _, hs, ht⟩
    · cases hv
    · simp only [Value.slice.injEq, Option.some.injEq, Addr.mk.injEq] at hv
      obtain ⟨⟨rfl, _⟩, _, rfl⟩ := hv
      exact ⟨cur, hgg, hs, ht⟩
  have HC1 := Lib.hid hcur
  have HC2 := Lib.hid hcs
  have HC3 := Lib.hid htk
  clear h hg hp p hcur hcs htk
  unfold maxLen at h2
  have HE : Hid (flat (ps.eraseIdx i) = (flat ps).take (i * 2) ++ (flat ps).drop ((i + 1) * 2)) := flat_erase ps i hi
  have HEL : Hid ((ps.eraseIdx i).length = ps.length - 1) := List.length_eraseIdx_of_lt hi
  obtain ⟨n, hn⟩ : ∃ n, n = ps.length := ⟨_, rfl⟩
  have HN := Lib.hid hn
  rw [← hn] at h1 h64 hi d1
  clear hn
  have q0 : (0 : Int) ≤ (i : Int) := by omega
  have q1 : (i : Int) ≤ (n : Int) := by omega
  have q2 : (0 : Int) ≤ (i : Int) + 1 := by omega
  have q3 : (i : Int) + 1 ≤ (n : Int) := by omega
  have q4 : ((i : Int) + 1).toNat = i + 1 := by omega
  have q5 : IntKind.i64.wrap ((i : Int) + 1) = (i : Int) + 1 := IntWalk.i64_in _ (by omega)
  have hcp : ¬ cp = i := by omega
  have hfl : (flat ps).length = n * 2 := by rw [flat_length, HN.out]
  have HFL := Lib.hid hfl
  clear hfl
  have HS1 : Hid (((flat ps).drop ((i + 1) * 2)).length = (n - (i + 1)) * 2) := by
    show _ = _
    rw [List.length_drop, HFL.out]; omega
  obtain ⟨A, hA, hsrc⟩ : ∃ A : Addr, (if cp = i + 1 then some (⟨g, 0, none⟩ : Addr) else some ⟨g, (i + 1) * 2, none⟩) = some A ∧ Hid (∀ j u, ((flat ps).drop ((i + 1) * 2))[j]? = some u → (w.drewN 1).cell? (A.add j) = some u) := by
    by_cases hc : cp = i + 1
    · refine ⟨⟨g, 0, none⟩, by simp [hc], fun j u hu => ?_⟩
      have h0 : ((flat ps).drop ((i + 1) * 2)).length = 0 := by rw [HS1.out]; omega
      rw [List.length_eq_zero_iff.1 h0] at hu
      simp at hu
    · refine ⟨⟨g, (i + 1) * 2, none⟩, by simp [hc], fun j u hu => ?_⟩
      have hj : j < (n - (i + 1)) * 2 := by rw [← HS1.out]; exact (List.getElem?_eq_some_iff.1 hu).1
      rw [List.getElem?_drop, ← HC3.out, List.getElem?_take, if_pos (by rw [← HN.out]; omega)] at hu
      rw [add_none]
      show w.cell? _ = _
      rw [cell_of HC1.out]
      simpa using hu
  go_enter Try.func27, Try.ntmps27
  go_wp2_with fail
  go_still_tail 13, (by kernel_rfl)
  have HC4 : Hid ((w.drewN 1).heap[g]? = some (.cells cur 34 (0, 0))) := HC1
  have HB0 : Hid ((w.drewN 1).heap[nb]? = some (.cells #[.int .i64 most, .slice (some ⟨g, 0, none⟩) n cp, .int .i64 c0, .int .i64 c1, .int .i64 c2, .int .i64 c3] 56 (0, 0))) := by have := HH.out.block; rw [← HN.out] at this; exact this
  clear d1
  refine wpList_copy_two (w := w.drewN 1) rfl (.tmp 13) (.tmp 20) 27 27 rfl 34 Try.underlying27 (by kernel_rfl) g (i * 2) (n - i) (cp - i) A (n - (i + 1)) (cp - (i + 1)) (by simp [Act.eval]) (by simp [Act.eval]) cur 34 HC4.out ((flat ps).drop ((i + 1) * 2)) (by omega) HS1.out hsrc.out ?_ ?_ ?_
  · rw [HS1.out, HC2.out]; omega
  · intro u hu; exact one_flat ps u (List.mem_of_mem_drop hu)
  intro w1 hw1
  have R1 : Hid (w1.heap[g]? = some (.cells (cur.toList.take (i * 2) ++ (flat ps).drop ((i + 1) * 2) ++ cur.toList.drop (i * 2 + ((flat ps).drop ((i + 1) * 2)).length)).toArray 34 (0, 0))) := by rw [hw1]; exact setRow_heap _ _ _ _ _ _ HC4.out
  have B1 : Hid (w1.heap[nb]? = some (.cells #[.int .i64 most, .slice (some ⟨g, 0, none⟩) n cp, .int .i64 c0, .int .i64 c1, .int .i64 c2, .int .i64 c3] 56 (0, 0))) := by rw [hw1]; exact (setRow_other _ _ _ _ (fun e => HG.out e.symm)).trans HB0.out
  have K1 : Hid (Keep (fun k => k = g) w w1) := by
    rw [hw1]
    exact ⟨rfl, rfl, rfl, by simp [World.setRow, World.drewN], fun k _ hk => setRow_other _ _ _ _ hk⟩
  clear hw1 HC4 HB0
  have e1 : w1.cell? ⟨nb, 1, none⟩ = some (.slice (some ⟨g, 0, none⟩) n cp) := cell_of B1.out 1
  have e2 : w1.frozen? ⟨nb, 1, none⟩ = false := free_of B1.out 1
  have B2 : Hid ((w1.setCell ⟨nb, 1, none⟩ (.slice (some ⟨g, 0, none⟩) (i + (n - (i + 1))) cp)).heap[nb]? = some (.cells #[.int .i64 most, .slice (some ⟨g, 0, none⟩) (i + (n - (i + 1))) cp, .int .i64 c0, .int .i64 c1, .int .i64 c2, .int .i64 c3] 56 (0, 0))) := heap_setCell_at B1.out
  clear hA
  go_wp2_with (go_at_call 38; refine (add_any nb 4 c2 1 _ (cell_of B2.out 4) (free_of B2.out 4) hc0 hc1 (by decide) (by decide)).mono ?_; rintro e wz ⟨rfl, rfl⟩)
  go_ret
  have B3 := heap_setCell_at (v := .int .i64 (c2 + 1)) (i := 4) B2.out
  have K2 : Keep (fun i => i = nb) w1 ((w1.setCell ⟨nb, 1, none⟩ (.slice (some ⟨g, 0, none⟩) (i + (n - (i + 1))) cp)).setCell ⟨nb, 4, none⟩ (.int .i64 (c2 + 1))) := Keep.two _ _ rfl rfl
  have hl : i + (n - (i + 1)) = (ps.eraseIdx i).length := by rw [HEL.out, ← HN.out]; omega
  refine ⟨.slice (some ⟨g, 0, none⟩) (i + (n - (i + 1))) cp, rfl, ⟨B3, ?_⟩, rfl, ?_⟩
  · have hx := HS1.out
    have hy := HFL.out
    have hz := HC2.out
    have htk : (cur.toList.take (i * 2)) = (flat ps).take (i * 2) := by
      rw [← HC3.out, List.take_take]
      congr 1
      rw [← HN.out]; omega
    refine ⟨flat_length _, .inr ⟨g, cp, _, by rw [hl], hgb, (K2.heap R1.out HG.out), by rw [← hl]; omega, by unfold maxLen; omega, ?_, ?_⟩⟩
    · simp only [List.size_toArray, List.length_append, List.length_take, List.length_drop, Array.length_toList, hy, hz]
      omega
    · rw [HE.out, htk, ← hl, List.append_assoc, ← List.append_assoc]
      have hlen : ((flat ps).take (i * 2) ++ (flat ps).drop ((i + 1) * 2)).length = (i + (n - (i + 1))) * 2 := by
        rw [List.length_append, hx, List.length_take, hy]; omega
      rw [← hlen]
      exact List.take_left
  · have hk := (K1.out.mono (S' := fun k => k = nb ∨ (Value.slice (some ⟨g, 0, none⟩) ps.length cp).ownBlock = some k) (fun k hk => .inr (by simp [Value.ownBlock, hk])))
    exact hk.trans (K2.mono (fun _ h => .inl h))
end Go.Proofs.Ythcagpgdekhaeaa
