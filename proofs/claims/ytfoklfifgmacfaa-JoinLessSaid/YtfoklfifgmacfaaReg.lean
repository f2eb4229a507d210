/- A region that draws its order: its head reads and makes calls that make memory alone, in whatever order; its tail (stores, mostly) is forced. One walk of the head in the text's order serves every order; then the tail is walked. No condition. -/
import Derived.Test.YtfoklfifgmacfaaBase
import Derived.StillTail
namespace Go.Proofs.Ytfoklfifgmacfaa
section
variable {P : Program} {ops : Array Oper} {md : Region.Mode} {C : World → Prop}
/-- f operations of the head are still to come; behind them L holds. -/
def HeadQ (P : Program) (md : Region.Mode) (ops : Array Oper) (C : World → Prop) (n : Nat) (L : Array Bool → Act → Prop) : Nat → Array Bool → Act → Prop
  | 0, seen, a => L seen a
  | f + 1, seen, a => Region.ready md ops seen ≠ [] ∧ ∀ i ∈ Region.ready md ops seen, i < n ∧ qOp P ops C i (HeadQ P md ops C n L f (seen.setIfInBounds i true)) a
theorem HeadQ.any {n g : Nat} {L : Array Bool → Act → Prop} {Q : Exit → Act → World → Prop} (hL : ∀ seen a w, C w → L seen a → wpAny P md ops Q g seen a w) (f : Nat) :
    ∀ (seen : Array Bool) (a : Act) (w : World), C w → HeadQ P md ops C n L f seen a → wpAny P md ops Q (f + g) seen a w := by
  induction f with
  | zero => intro seen a w hw h; rw [Nat.zero_add]; exact hL _ _ _ hw h
  | succ f ih =>
    intro seen a w hw h
    rw [show f + 1 + g = (f + g) + 1 by omega]
    refine ⟨fun h0 => absurd h0 h.1, fun i hi => ?_⟩
    exact wpOp_of_qOp hw (fun a' w' hw' h' => ih _ a' w' hw' h') (h.2 i hi).2
/-- Each operation from m to n is waited for by a later one up to n. -/
def sinkFrom (md : Region.Mode) (ops : Array Oper) (m n : Nat) : Bool :=
  (List.range n).all fun i => decide (i < m) || (List.range (n + 1)).any fun j => decide (i < j) && Region.waitsFor md ops j i
theorem waits_from {m n : Nat} {seen : Array Bool} (hs : sinkFrom md ops m n = true) (hc : Region.chainB md ops n = true) (hn : n < ops.size) (inv : HeadInv md ops n seen) (d : Nat) :
    ∀ i, n - i = d → m ≤ i → i < n → seen.getD i true = false → ∀ t, n ≤ t → t ∉ Region.ready md ops seen := by
  induction d using Nat.strongRecOn with
  | _ d ih =>
    intro i hd hm hi hun t ht hr
    obtain ⟨_, ot, hot, hall⟩ := mem_ready.1 hr
    have htlt : t < ops.size := (Array.getElem?_eq_some_iff.1 hot).1
    by_cases htn : t = n
    · subst htn
      have h1 := List.all_eq_true.1 hs i (List.mem_range.2 hi)
      simp only [Bool.or_eq_true, decide_eq_true_eq] at h1
      obtain ⟨j, hj, hj2⟩ := List.any_eq_true.1 (h1.resolve_left (by omega))
      simp only [Bool.and_eq_true, decide_eq_true_eq] at hj2
      obtain ⟨oj, hoj, e, he, hb, hon⟩ := Region.waitsFor_spec hj2.2
      have hjle : j ≤ t := by have := List.mem_range.1 hj; omega
      have hni : seen.getD e.on false ≠ true := by rw [hon, getD_both hun]; exact Bool.false_ne_true
      by_cases hjt : j = t
      · subst hjt
        obtain rfl : oj = ot := Option.some.inj (hoj.symm.trans hot)
        exact hni (hall e he hb)
      · cases hl : seen.getD j false with
        | true => exact hni (inv.closed j oj hoj hl e he hb)
        | false => exact ih (t - j) (by omega) j rfl (by omega) (by omega) (getD_in (by rw [inv.size]; omega) hl) t (Nat.le_refl _) hr
    · have h1 := List.all_eq_true.1 hc t (List.mem_range.2 htlt)
      simp only [Bool.or_eq_true, decide_eq_true_eq] at h1
      obtain ⟨o', ho', e, he, hb, hon⟩ := Region.waitsFor_spec (h1.resolve_left (by omega))
      obtain rfl : o' = ot := Option.some.inj (ho'.symm.trans hot)
      have h2 := hall e he hb
      rw [hon, getD_both (inv.tail (t - 1) (by omega) (by omega))] at h2
      cases h2
/-- An operation of the head that may come up now may be taken first. -/
theorem HeadQ.take {m n i : Nat} {o : Oper} {v : Value} {L : Array Bool → Act → Prop} (hi : ops[i]? = some o) (hsel : ∀ (j : Nat) (o : Oper) cs b, ops[j]? = some o → o.op ≠ .select cs b)
    (hs : sinkFrom md ops m n = true) (hc : Region.chainB md ops n = true) (hn : n < ops.size) (him : m ≤ i) (hin : i < n) (hdone : ∀ seen a, L seen a → ∀ j ∈ Region.ready md ops seen, n ≤ j) (f : Nat) :
    ∀ (seen : Array Bool) (a : Act), HeadInv md ops n seen →
      (∀ j oj, ops[j]? = some oj → j ≠ i → seen.getD j true = false → (∀ e ∈ oj.after, Region.binds md e = true → e.on ≠ i) → o.apart ops oj = true) →
      i ∈ Region.ready md ops seen → YieldsIn P ops C o v a → HeadQ P md ops C n L f (seen.setIfInBounds i true) (a.put o.dst v) → HeadQ P md ops C n L (f + 1) seen a := by
  induction f with
  | zero =>
    intro seen a inv _ hr hy H
    refine ⟨fun h => (by rw [h] at hr; cases hr), fun j hj => ?_⟩
    have hjn : j < n := Nat.lt_of_not_le fun h => waits_from hs hc hn inv _ i rfl him hin (mem_ready.1 hr).1 j h hj
    refine ⟨hjn, ?_⟩
    by_cases hji : j = i
    · subst hji; exact hy.qOp hi H
    · exact absurd (hdone _ _ H j (ready_mono hj hji)) (by omega)
  | succ f ih =>
    intro seen a inv hfree hr hy H
    refine ⟨fun h => (by rw [h] at hr; cases hr), fun j hj => ?_⟩
    have hjn : j < n := Nat.lt_of_not_le fun h => waits_from hs hc hn inv _ i rfl him hin (mem_ready.1 hr).1 j h hj
    refine ⟨hjn, ?_⟩
    by_cases hji : j = i
    · subst hji; exact hy.qOp hi H
    · obtain ⟨hjun, oj, hoj, hall⟩ := mem_ready.1 hj
      have hwait : ∀ e ∈ oj.after, Region.binds md e = true → e.on ≠ i := by
        intro e he hb heq
        have h1 := hall e he hb
        rw [heq, getD_both (mem_ready.1 hr).1] at h1
        cases h1
      have hq := qOp_put hoj (hfree j oj hoj hji hjun hwait) (fun cs b => hsel i o cs b hi) (fun cs b => hsel j oj cs b hoj) hy (H.2 j (ready_mono hj hji)).2
      refine qOp_mono (fun a' h3 => ih _ a' (inv.set hj hjn) ?_ (ready_mono hr (Ne.symm hji)) h3.1 (by rw [Array.setIfInBounds_comm _ _ hji]; exact h3.2)) hq
      intro k ok hk hki hun hno
      refine hfree k ok hk hki ?_ hno
      by_cases hjk : j = k
      · subst hjk; exact hjun
      · rw [getD_set_ne true hjk] at hun; exact hun
theorem HeadQ.lex {m n g : Nat} {L : Act → Prop} (hsel : Region.noSelect ops = true) (hs : sinkFrom md ops m n = true) (hc : Region.chainB md ops n = true) (hn : n < ops.size) (l : List Oper) :
    ∀ (k : Nat) (seen : Array Bool) (a : Act), (∀ j, j < l.length → l[j]? = ops[k + j]?) → m ≤ k → k + l.length = n → HeadInv md ops n seen → Region.lexHead md ops g l.length k seen = true →
      wpQuiet P ops C L l a → HeadQ P md ops C n (fun seen' a' => Region.seqB md ops g n seen' = true ∧ L a') l.length seen a := by
  induction l with
  | nil =>
    intro k seen a _ _ hk _ hB h
    obtain rfl : k = n := by simpa using hk
    exact ⟨by simpa [Region.lexHead] using hB, h⟩
  | cons o l ih =>
    intro k seen a hl hmk hk inv hB h
    have h0 : ops[k]? = some o := by simpa using (hl 0 (by simp)).symm
    simp only [List.length_cons, Region.lexHead, Bool.and_eq_true] at hB hk
    obtain ⟨⟨hr, hf⟩, hB'⟩ := hB
    have hr' : k ∈ Region.ready md ops seen := by simpa using hr
    have hq : qOp P ops C k (wpQuiet P ops C L l) a := by unfold qOp; simp only [h0]; exact h
    obtain ⟨v, hy, hK⟩ := yieldsIn_of_qOp h0 hq
    refine HeadQ.take h0 (Region.noSelect_spec hsel) hs hc hn hmk (by omega) (fun _ _ hL => seqB_ready hL.1) l.length seen a inv (Region.free_spec h0 hf) hr' hy ?_
    exact ih (k + 1) _ _ (fun j hj => by have := hl (j + 1) (by simp; omega); simpa [Nat.add_assoc, Nat.add_comm 1 j] using this) (by omega) (by omega) (inv.set hr' (by omega)) hB' hK
/-- Operations that yield their value in whatever world: taken first. -/
def wpMoves (P : Program) (ops : Array Oper) (L : Act → Prop) : List Oper → Act → Prop
  | [], a => L a
  | o :: rest, a => if Region.wanted o (yielded ops a.tmps) then ∃ v, (∀ w, (execOp a.eval o).run P w = .ok (.value v) w) ∧ wpMoves P ops L rest (a.put o.dst v) else wpMoves P ops L rest (a.put o.dst undef)
theorem wpMoves_step {L : Act → Prop} {a : Act} {o : Oper} {rest : List Oper}
    (h : ∀ K : Act → Prop, (∀ a, wpMoves P ops L rest a → K a) → if Region.wanted o (yielded ops a.tmps) then ∃ v, (∀ w, (execOp a.eval o).run P w = .ok (.value v) w) ∧ K (a.put o.dst v) else K (a.put o.dst undef)) : wpMoves P ops L (o :: rest) a :=
  h _ (fun _ h => h)
theorem wpMoves_nil {L : Act → Prop} {a : Act} (h : L a) : wpMoves P ops L [] a := h
/-- The first f operations come up, in order. -/
def lexMoves (md : Region.Mode) (ops : Array Oper) (L : Array Bool → Bool) : Nat → Nat → Array Bool → Bool
  | 0, _, seen => L seen
  | f + 1, k, seen => (Region.ready md ops seen).contains k && Region.free md ops seen k && lexMoves md ops L f (k + 1) (seen.setIfInBounds k true)
theorem wpMoves.any {n g : Nat} {L : Act → Prop} {Q : Exit → Act → World → Prop} {w : World} {B : Array Bool → Bool} (hsel : Region.noSelect ops = true) (hQ : ∀ c (a : Act) d v w, Q (.panic c) (a.put d v) w → Q (.panic c) a w)
    (hL : ∀ seen a, HeadInv md ops n seen → B seen = true → L a → wpAny P md ops Q g seen a w) (l : List Oper) :
    ∀ (k : Nat) (seen : Array Bool) (a : Act), (∀ j, j < l.length → l[j]? = ops[k + j]?) → k + l.length ≤ n → HeadInv md ops n seen → lexMoves md ops B l.length k seen = true → wpMoves P ops L l a → wpAny P md ops Q (l.length + g) seen a w := by
  induction l with
  | nil => intro k seen a _ _ inv hB h; rw [List.length_nil, Nat.zero_add]; exact hL _ _ inv (by simpa [lexMoves] using hB) h
  | cons o l ih =>
    intro k seen a hl hk inv hB h
    have h0 : ops[k]? = some o := by simpa using (hl 0 (by simp)).symm
    simp only [List.length_cons, lexMoves, Bool.and_eq_true] at hB hk
    obtain ⟨⟨hr, hf⟩, hB'⟩ := hB
    have hr' : k ∈ Region.ready md ops seen := by simpa using hr
    have go : ∀ v, Yields P ops o v a → wpMoves P ops L l (a.put o.dst v) → wpAny P md ops Q ((o :: l).length + g) seen a w := by
      intro v hy hn
      rw [List.length_cons, show l.length + 1 + g = (l.length + g) + 1 by omega]
      exact wpAny_take h0 hsel hf hr (fun c a w => hQ c a _ _ w) hy (ih (k + 1) _ _ (fun j hj => by have := hl (j + 1) (by simp; omega); simpa [Nat.add_assoc, Nat.add_comm 1 j] using this) (by omega) (inv.set hr' (by omega)) hB' hn)
    unfold wpMoves at h
    by_cases hw : Region.wanted o (yielded ops a.tmps) = true
    · rw [if_pos hw] at h
      obtain ⟨v, h1, h2⟩ := h
      exact go v (.inl ⟨hw, h1⟩) h2
    · rw [if_neg hw] at h
      exact go undef (.inr ⟨by simpa using hw, rfl⟩) h
/-- What the kernel is asked: the first m operations are moves, those up to n the head, the rest the tail. -/
def lexTailFrom (ops : Array Oper) (m n : Nat) : Bool :=
  Region.noSelect ops && decide (n < ops.size) && decide (m ≤ n) && sinkFrom .any ops m n && Region.chainB .any ops n && lexMoves .any ops (fun seen => Region.lexHead .any ops (ops.size - n) (n - m) m seen) m 0 (Array.replicate ops.size false)
/-- The first m operations are moves; the head (up to n) is quiet in the class of the later worlds; then the tail, in its order, in whatever later world. -/
theorem wp_region_later_from {id : Nat} {Q : Exit → Act → World → Prop} {a : Act} {w : World} {l : List Oper} (m n : Nat) (hm : P.follows .mixedOrders = true) (hB : lexTailFrom l.toArray m n = true)
    (hQ : ∀ c (a : Act) d v w, Q (.panic c) (a.put d v) w → Q (.panic c) a w)
    (h : wpMoves P l.toArray (wpQuiet P l.toArray (fun w' => ∃ g : Later w, w' = g.world) (fun a' => ∀ w', (∃ g : Later w, w' = g.world) → wpList P l.toArray Q (l.drop n) a' w') ((l.take n).drop m)) (l.take m) a) : (Code.region id l.toArray true).wp P Q a w := by
  simp only [lexTailFrom, Bool.and_eq_true, decide_eq_true_eq] at hB
  obtain ⟨⟨⟨⟨⟨hsel, hn⟩, hmn⟩, hs⟩, hc⟩, hlex⟩ := hB
  have hn' : n < l.length := by simpa using hn
  have htm : (l.take m).length = m := by simp; omega
  have htl : ((l.take n).drop m).length = n - m := by simp; omega
  have hdl : (l.drop n).length = l.toArray.size - n := by simp
  have inv0 : HeadInv .any l.toArray n (Array.replicate l.toArray.size false) :=
    ⟨by simp, fun j oj _ hl => (by rw [getD_replicate_false] at hl; cases hl), fun t _ ht => getD_in (by simpa using ht) (getD_replicate_false _ _)⟩
  refine wp_region_any hm ?_
  have hfin := wpMoves.any (P := P) (Q := Q) (n := n) (g := (n - m) + (l.toArray.size - n)) (w := { w with drawn := w.drawn + 1 }) hsel hQ (fun seen a' inv hB h => by
    have H := HeadQ.lex (g := l.toArray.size - n) hsel hs hc hn ((l.take n).drop m) m seen a' (fun j hj => by rw [htl] at hj; simp [List.getElem?_drop, List.getElem?_take]; omega) (Nat.le_refl _) (by rw [htl]; omega) inv (by rw [htl]; exact hB) h
    rw [htl] at H
    exact HeadQ.any (Q := Q) (g := l.toArray.size - n) (fun seen a' w' hw' hL => by
      have := wpAny_of_seq (md := .any) (Q' := Q) (l.drop n) n seen a' w' (fun j => by simp [List.getElem?_drop]) (by rw [hdl]; exact hL.1) (hL.2 w' hw')
      rwa [hdl] at this) _ _ _ { w with drawn := w.drawn + 1 } ⟨⟨w.drewN 1, Keep.drewN _ _ 1⟩, rfl⟩ H) (l.take m) 0 (Array.replicate l.toArray.size false) a (fun j hj => by rw [htm] at hj; simp [hj]) (by rw [htm]; omega) inv0 (by rw [htm]; exact hlex) h
  rw [htm, show m + ((n - m) + (l.toArray.size - n)) = l.toArray.size by omega] at hfin
  exact hfin
/-- The head (the first n operations) is quiet; then the tail. -/
theorem wp_region_later_tail {id : Nat} {Q : Exit → Act → World → Prop} {a : Act} {w : World} {l : List Oper} (n : Nat) (hm : P.follows .mixedOrders = true) (hB : Region.lexTailB .any l.toArray n = true)
    (h : wpQuiet P l.toArray (fun w' => ∃ g : Later w, w' = g.world) (fun a' => ∀ w', (∃ g : Later w, w' = g.world) → wpList P l.toArray Q (l.drop n) a' w') (l.take n) a) : (Code.region id l.toArray true).wp P Q a w := by
  simp only [Region.lexTailB, Bool.and_eq_true, decide_eq_true_eq] at hB
  obtain ⟨⟨⟨⟨hsel, hn⟩, hs⟩, hc⟩, hlex⟩ := hB
  have hs' : sinkFrom .any l.toArray 0 n = true := by
    refine List.all_eq_true.2 fun i hi => ?_
    rw [Bool.or_eq_true]
    exact .inr (List.all_eq_true.1 hs i hi)
  have hn' : n < l.length := by simpa using hn
  have htl : (l.take n).length = n := by simp; omega
  have hdl : (l.drop n).length = l.toArray.size - n := by simp
  have inv0 : HeadInv .any l.toArray n (Array.replicate l.toArray.size false) :=
    ⟨by simp, fun j oj _ hl => (by rw [getD_replicate_false] at hl; cases hl), fun t _ ht => getD_in (by simpa using ht) (getD_replicate_false _ _)⟩
  have H := HeadQ.lex (m := 0) (g := l.toArray.size - n) hsel hs' hc hn (l.take n) 0 _ a (fun j hj => by rw [htl] at hj; simp [hj]) (Nat.zero_le _) (by simpa using htl) inv0 (by rw [htl]; exact hlex) h
  refine wp_region_any hm ?_
  have hfin := HeadQ.any (Q := Q) (g := l.toArray.size - n) (fun seen a' w' hw' hL => by
    have := wpAny_of_seq (md := .any) (Q' := Q) (l.drop n) n seen a' w' (fun j => by simp [List.getElem?_drop]) (by rw [hdl]; exact hL.1) (hL.2 w' hw')
    rwa [hdl] at this) _ _ _ { w with drawn := w.drawn + 1 } ⟨⟨w.drewN 1, Keep.drewN _ _ 1⟩, rfl⟩ H
  rw [htl, show n + (l.toArray.size - n) = l.toArray.size by omega] at hfin
  exact hfin
end
end Go.Proofs.Ytfoklfifgmacfaa
