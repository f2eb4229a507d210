/- Parts of bytes, opened with their reach; an append of bytes to a row of the call's own. -/
import Derived.Test.YtoeniimgbinflaaDoorLO
import Derived.Test.YtoeniimgbinflaaDoorLS
import Derived.SizedLaws
namespace Go.Proofs.YtoeniimgbinflaaDoor
open Go.RowKit Go.ChangeShapes Go.WideShapes Go.Deep
section
variable {H : Type} {enc : TypeId × Value → H} {w : World} {base : Nat} {spare : Nat → Bool} {held : Bool}
theorem bytes5 : Tryd.prog.bytesOf 5 = 1 := by kernel_rfl
theorem weightsAll_mem {P : Program} {e : TypeId} : ∀ {l : List (DataW H)} {d : DataW H}, d ∈ l → ∀ n ∈ d.weights P e, n ∈ DataW.weightsAll P e l
  | d' :: r, d, hd, n, hn => by
    simp only [DataW.weightsAll, List.mem_append]
    rcases List.mem_cons.1 hd with rfl | h
    · exact Or.inl hn
    · exact Or.inr (weightsAll_mem h n hn)
theorem bytes_reach {fuel : Nat} {a : Option Addr} {n cap : Nat} {x : DataW H × List MemPlace} (h : DataW.trod enc Tryd.prog w base spare held fuel 22 [.slice a n cap] = some x) (hw : ∀ m ∈ x.1.weights Tryd.prog 22, m ≤ reachBytes) : n ≤ reachBytes := by
  rcases open_slice1 Tryd.underlying22 (by kernel_rfl) h with ⟨h0, _⟩ | ⟨ad, len, cp, m, k, V, D, Pl, h0, _, hl, hcm, hm, rfl, hx⟩
  · simp only [List.cons.injEq, Value.slice.injEq] at h0
    obtain ⟨⟨_, rfl, _⟩, _⟩ := h0
    exact Nat.zero_le _
  · simp only [List.cons.injEq, Value.slice.injEq] at h0
    obtain ⟨⟨_, rfl, _⟩, _⟩ := h0
    have := hw _ (by simp only [DataW.weights, Tryd.underlying22]; exact List.mem_cons_self)
    rw [bytes5] at this
    simp only [List.length_map, List.length_range, Nat.mul_one] at this
    omega
theorem parts_reach {a : Option Addr} {n cap : Nat} {d : DataW H} {p : List MemPlace} (h : DataW.Trod enc Tryd.prog w base spare held 29 (.slice a n cap) d p) (hw : ∀ m ∈ d.weights Tryd.prog 29, m ≤ reachBytes) : n ≤ maxLen ∧ ∃ ps : List (List UInt8), n = ps.length ∧ Parts w a ps ∧ ∀ p ∈ ps, p.length ≤ reachBytes := by
  obtain ⟨fuel, hf⟩ := h
  rcases open_slice1 Tryd.underlying29 (by kernel_rfl) hf with ⟨h0, _⟩ | ⟨ad, len, cp, m, k, V, D, Pl, h0, _, hl, hcm, hm, hxx, hx⟩
  · simp only [Value.cells, List.cons.injEq, Value.slice.injEq] at h0
    obtain ⟨⟨rfl, rfl, rfl⟩, _⟩ := h0
    exact ⟨Nat.zero_le _, [], rfl, fun i x hi => by simp at hi, fun p hp => by cases hp⟩
  · simp only [Value.cells, List.cons.injEq, Value.slice.injEq] at h0
    obtain ⟨⟨rfl, rfl, rfl⟩, _⟩ := h0
    obtain ⟨hd, _⟩ := Prod.mk.inj hxx
    have key : ∀ i, ∃ p : List UInt8, i < n → p.length ≤ reachBytes ∧ ∃ b o ai ci, some ad = some (⟨b, o, none⟩ : Addr) ∧ w.cell? ⟨b, o + i, none⟩ = some (.slice ai p.length ci) ∧ p.length ≤ ci ∧ Bl w ai p := by
      intro i
      by_cases hi : i < n
      · have him : i < m := by rw [hm]; split <;> omega
        obtain ⟨b, o, rfl⟩ := plain_addr (hx 0 (by omega)).1
        obtain ⟨hc, ht⟩ := hx i him
        obtain ⟨ai, ni, ci, e1, h1, h2, xs, rfl, h3⟩ := bytes_open ht
        simp only [List.cons.injEq, and_true] at e1
        rw [e1] at ht
        rw [add_none, e1] at hc
        have hr := bytes_reach ht (fun v hv => hw v (by
          rw [hd]
          simp only [DataW.weights, Tryd.underlying29, List.mem_cons, List.mem_append]
          exact Or.inr (Or.inl (weightsAll_mem (List.mem_map.2 ⟨i, List.mem_range.2 hi, rfl⟩) v hv))))
        exact ⟨xs, fun _ => ⟨hr, b, o, ai, ci, rfl, hc, h2, h3⟩⟩
      · exact ⟨[], fun h => absurd h hi⟩
    obtain ⟨F, hF⟩ : ∃ F : Nat → List UInt8, ∀ i, i < n → (F i).length ≤ reachBytes ∧ ∃ b o ai ci, some ad = some (⟨b, o, none⟩ : Addr) ∧ w.cell? ⟨b, o + i, none⟩ = some (.slice ai (F i).length ci) ∧ (F i).length ≤ ci ∧ Bl w ai (F i) := ⟨fun i => Classical.choose (key i), fun i => Classical.choose_spec (key i)⟩
    refine ⟨by omega, (List.range n).map F, by simp, fun i x hi => ?_, fun p hp => ?_⟩
    · have hi' : i < n := by simpa using (List.getElem?_eq_some_iff.1 hi).1
      obtain ⟨_, hh⟩ := hF i hi'
      rw [List.getElem?_map, List.getElem?_range hi'] at hi
      simp only [Option.map_some, Option.some.injEq] at hi
      rw [hi] at hh
      exact hh
    · obtain ⟨i, hi, rfl⟩ := List.mem_map.1 hp
      exact (hF i (List.mem_range.1 hi)).1
end
theorem run_app_bl (ty : TypeId) (b0 : Nat) (v : Value) (L p : List UInt8) (a : Option Addr) (cap : Nat) (w : World) (hb0 : b0 ≤ w.heap.size) (hown : w.ownsRow b0 5 1 v L.length (bv L)) (hb : Bl w a p) (hn : L.length + p.length ≤ 1000000) :
    ∃ v' w', (Builtin.append_ #[22, 22] ty #[v, .slice a p.length cap]).run Tryd.prog w = .ok v' w' ∧ w'.ownsRow b0 5 1 v' (L ++ p).length (bv (L ++ p)) ∧ w.grownBy w' v.ownBlock := by
  obtain ⟨i0, hi, hz0, hz2, hz1⟩ := info5
  have e : bv (L ++ p) = bv L ++ bv p := by simp [bv]
  cases a with
  | none =>
    have hp : p = [] := by
      cases p with
      | nil => rfl
      | cons x p =>
        obtain ⟨b, o, h, _⟩ := hb 0 x rfl
        cases h
    subst hp
    rw [List.append_nil]
    refine ⟨v, w, ?_, hown, ⟨rfl, rfl, rfl, Nat.le_refl _, fun _ _ _ => rfl⟩⟩
    rcases hown.2 with ⟨rfl, _⟩ | ⟨g, c, cur, rfl, _, _, hnc, _⟩
    · simp [Builtin.append_, run_underlying Tryd.underlying22, sizeOf, typeInfo, hi, Builtin.lenOf, Builtin.firstCells]
    · simp [Builtin.append_, run_underlying Tryd.underlying22, sizeOf, typeInfo, hi, Builtin.lenOf, Builtin.firstCells, hnc, storeCells]
  | some ad =>
    have hnews : ∀ j u, (bv p)[j]? = some u → w.cell? (ad.add j) = some u := fun j u hj => by
      unfold bv at hj
      rw [List.getElem?_map, Option.map_eq_some_iff] at hj
      obtain ⟨x, hx, rfl⟩ := hj
      obtain ⟨b', o', e, hc⟩ := hb j x hx
      obtain rfl := Option.some.inj e
      rw [Addr.add_lit, hc]
    obtain ⟨v', w', hr, h2, h3, -⟩ := run_append_own (P := Tryd.prog) w b0 22 ty 5 i0 (.int .u8 0) 1 1 Tryd.underlying22 hi hz0 hz1 hz2 rfl (by decide) v L.length (bv L) hown ad p.length cap (bv p) (by rw [bv_length]; omega) hnews (bv_one p) (by unfold maxLen; omega) (by omega) hb0
    exact ⟨v', w', hr, by rw [List.length_append, e]; exact h2, h3⟩
theorem wpList_app_bl {w : World} {ops : Array Oper} {rest : List Oper} {o : Oper} {a : Act} {Q : Exit → Act → World → Prop} (hgd : o.guard = none) (s x : Operand)
    (ho : o.op = .call { callee := .builtin .append, args := #[s, x], argTypes := #[22, 22] })
    (b0 : Nat) (v : Value) (L p : List UInt8) (k m : Nat) (hk : L.length = k) (hm : p.length = m) (ad : Option Addr) (cap : Nat) (hs : a.eval s = v) (hx : a.eval x = .slice ad m cap) (hb0 : b0 ≤ w.heap.size) (hown : w.ownsRow b0 5 1 v k (bv L)) (hb : Bl w ad p) (hn : k + m ≤ 1000000)
    (h : ∀ v' w', w'.ownsRow b0 5 1 v' (L ++ p).length (bv (L ++ p)) → w.grownBy w' v.ownBlock → wpList Tryd.prog ops Q rest (a.put o.dst v') w') : wpList Tryd.prog ops Q (o :: rest) a w := by
  subst hk hm
  refine wpList_plain hgd fun K hK => ?_
  obtain ⟨v', w', hrun, h1, h2⟩ := run_app_bl o.type b0 v L p ad cap w hb0 hown hb hn
  unfold Oper.wp
  have hex : (execOp a.eval o).run Tryd.prog w = .ok (.value v') w' := by
    unfold execOp
    simp only [ho, resolve, invoke, builtin, Sem.run_bind, Sem.run_pure, Result.andThen_ok, List.map_toArray, List.map_cons, List.map_nil, hs, hx, hrun]
  rw [hex]
  exact hK _ _ (h _ _ h1 h2)
theorem ownsRow_keepB {S : Nat → Prop} {w w' : World} {base : Nat} {e : TypeId} {size : Nat} {v : Value} {n : Nat} {xs : List Value} (h : w.ownsRow base e size v n xs) (k : Keep S w w') (hs : ∀ g, v.ownBlock = some g → ¬ S g) : w'.ownsRow base e size v n xs := by
  refine ⟨h.1, ?_⟩
  rcases h.2 with hn | ⟨g, cap, cur, rfl, hb, hg, rest⟩
  · exact .inl hn
  · exact .inr ⟨g, cap, cur, rfl, hb, k.heap hg (hs g rfl), rest⟩
end Go.Proofs.YtoeniimgbinflaaDoor
