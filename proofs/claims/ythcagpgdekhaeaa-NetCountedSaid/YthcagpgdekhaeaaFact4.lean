/- A region that draws its order: moves first; then operations of which some make memory, in whatever order; then a tail that is forced. No condition. -/
import Derived.Test.YthcagpgdekhaeaaFact3
namespace Go.Proofs.Ythcagpgdekhaeaa
open Go.RowKit
section
variable {P : Program} {ops : Array Oper} {w0 : World} {F : Nat → Option (Value → World → Prop)} {Q : Exit → Act → World → Prop} {a0 : Act} {m n : Nat}
/-- Of the first n, the first m alone are listed. -/
def onlyB (m n : Nat) (seen : Array Bool) : Bool := (List.range n).all fun k => seen.getD k false == decide (k < m)
/-- What the kernel is asked of the head. -/
def okT (ops : Array Oper) (m n : Nat) : Bool :=
  Region.noSelect ops && decide (m ≤ n) && decide (n < ops.size) && sinkFrom .any ops m n && Region.chainB .any ops n &&
  ((List.range ops.size).all fun i => match ops[i]? with
    | none => true
    | some o => (decide (n ≤ i) || o.after.all (fun e => !Region.binds .any e || decide (e.on < i))) && (List.range ops.size).all fun j => match (ops[j]?).bind (·.dst) with
      | none => true
      | some d => (decide (i = j) || o.dst != some d) && (decide (i < m) || decide (n ≤ i) || !(o.looksAt ops).contains d || (decide (j < i) && (decide (j < m) || o.after.any fun e => Region.binds .any e && e.on == j)))) &&
  lexMoves .any ops (onlyB m n) m 0 (Array.replicate ops.size false) &&
  Region.seqB .any ops (ops.size - n) n (Array.ofFn (n := ops.size) fun i => decide (i.val < n))
structure OkT (ops : Array Oper) (m n : Nat) : Prop where
  sel : Region.noSelect ops = true
  le : m ≤ n
  lt : n < ops.size
  sink : sinkFrom .any ops m n = true
  chain : Region.chainB .any ops n = true
  back : ∀ (i : Nat) (o : Oper), ops[i]? = some o → i < n → ∀ e ∈ o.after, Region.binds .any e = true → e.on < i
  dis : Distinct ops
  look : ∀ (i : Nat) (o : Oper) (j : Nat) (oj : Oper) (d : Tmp), m ≤ i → i < n → ops[i]? = some o → ops[j]? = some oj → oj.dst = some d → d ∈ o.looksAt ops → j < i ∧ (j < m ∨ ∃ e ∈ o.after, Region.binds .any e = true ∧ e.on = j)
  moves : lexMoves .any ops (onlyB m n) m 0 (Array.replicate ops.size false) = true
  seq : Region.seqB .any ops (ops.size - n) n (Array.ofFn (n := ops.size) fun i => decide (i.val < n)) = true
theorem okT_spec (h : okT ops m n = true) : OkT ops m n := by
  simp only [okT, Bool.and_eq_true, decide_eq_true_eq] at h
  obtain ⟨⟨⟨⟨⟨⟨⟨hs, hmn⟩, hn⟩, hsink⟩, hch⟩, hall⟩, hmv⟩, hsq⟩ := h
  have at' : ∀ (i : Nat) (o : Oper), ops[i]? = some o → ((decide (n ≤ i) || o.after.all (fun e => !Region.binds .any e || decide (e.on < i))) = true ∧ (List.range ops.size).all (fun j => match (ops[j]?).bind (·.dst) with
      | none => true
      | some d => (decide (i = j) || o.dst != some d) && (decide (i < m) || decide (n ≤ i) || !(o.looksAt ops).contains d || (decide (j < i) && (decide (j < m) || o.after.any fun e => Region.binds .any e && e.on == j)))) = true) := by
    intro i o hi
    have h1 := List.all_eq_true.1 hall i (List.mem_range.2 (Array.getElem?_eq_some_iff.1 hi).1)
    rw [hi] at h1
    simpa only [Bool.and_eq_true] using h1
  have pair : ∀ (i : Nat) (o : Oper) (j : Nat) (oj : Oper) (d : Tmp), ops[i]? = some o → ops[j]? = some oj → oj.dst = some d → (decide (i = j) || o.dst != some d) = true ∧ (decide (i < m) || decide (n ≤ i) || !(o.looksAt ops).contains d || (decide (j < i) && (decide (j < m) || o.after.any fun e => Region.binds .any e && e.on == j))) = true := by
    intro i o j oj d hi hj hd
    have h1 := List.all_eq_true.1 (at' i o hi).2 j (List.mem_range.2 (Array.getElem?_eq_some_iff.1 hj).1)
    rw [hj] at h1
    simp only [Option.bind_some, hd, Bool.and_eq_true] at h1
    exact h1
  refine ⟨hs, hmn, hn, hsink, hch, fun i o hi hin e he hb => ?_, fun j k oj ok t hj hk hjd hkd => ?_, fun i o j oj d hmi hin hi hj hd hl => ?_, hmv, hsq⟩
  · have h0 := (at' i o hi).1
    simp only [Bool.or_eq_true, decide_eq_true_eq] at h0
    have h1 := (Array.all_eq_true_iff_forall_mem.1 (h0.resolve_left (by omega))) e he
    simp only [hb, Bool.not_true, Bool.false_or, decide_eq_true_eq] at h1
    exact h1
  · have h1 := (pair j oj k ok t hj hk hkd).1
    simp [hjd] at h1
    exact h1
  · have h1 := (pair i o j oj d hi hj hd).2
    have hc : (o.looksAt ops).contains d = true := by simpa using hl
    rw [hc, decide_eq_false (by omega : ¬ i < m), decide_eq_false (by omega : ¬ n ≤ i)] at h1
    simp only [Bool.not_true, Bool.false_or, Bool.and_eq_true, Bool.or_eq_true, decide_eq_true_eq] at h1
    obtain ⟨h2, h3⟩ := h1
    refine ⟨h2, ?_⟩
    rcases h3 with h3 | h3
    · exact .inl h3
    · obtain ⟨j', hj', hb⟩ := Array.any_eq_true.1 h3
      have he := Array.getElem_mem hj'
      generalize o.after[j'] = e at *
      simp only [Bool.and_eq_true, beq_iff_eq] at hb
      exact .inr ⟨e, he, hb⟩
theorem Agree.at2 {a b : Act} {X X' : Nat → Value} {S S' : Nat → Prop} (hd : Distinct ops) (h : Agree ops a0 X S a) (h' : Agree ops a0 X' S' b) (t : Tmp) (ht : ∀ (k : Nat) (o : Oper), ops[k]? = some o → o.dst = some t → (S k ∧ S' k ∧ X k = X' k) ∨ (¬ S k ∧ ¬ S' k)) : a.tmps[t]? = b.tmps[t]? := by
  by_cases hx : ∃ (k : Nat) (o : Oper), ops[k]? = some o ∧ o.dst = some t
  · obtain ⟨k, o, hk, hdst⟩ := hx
    rcases ht k o hk hdst with ⟨h1, h2, h3⟩ | ⟨h1, h2⟩
    · by_cases hlt : t < a0.tmps.size
      · rw [h.held k o t hk hdst h1 hlt, h'.held k o t hk hdst h2 hlt, h3]
      · have e1 := h.size; have e2 := h'.size; rw [Array.getElem?_eq_none (Nat.le_of_not_lt (e1 ▸ hlt)), Array.getElem?_eq_none (Nat.le_of_not_lt (e2 ▸ hlt))]
    · rw [h.out t (fun k' o' hk' hd' hs => by have := hd k k' o o' t hk hk' hdst hd'; subst this; exact h1 hs), h'.out t (fun k' o' hk' hd' hs => by have := hd k k' o o' t hk hk' hdst hd'; subst this; exact h2 hs)]
  · rw [h.out t (fun k o hk hd _ => hx ⟨k, o, hk, hd⟩), h'.out t (fun k o hk hd _ => hx ⟨k, o, hk, hd⟩)]
/-- The head's operations. -/
def headOps (ops : Array Oper) (m n : Nat) : List Oper := (ops.toList.take n).drop m
theorem headOps_at {i : Nat} {o : Oper} (hm : m ≤ i) (hn : i < n) (ho : ops[i]? = some o) : (headOps ops m n)[i - m]? = some o := by
  unfold headOps
  rw [List.getElem?_drop, List.getElem?_take, if_pos (by omega), show m + (i - m) = i by omega]
  simpa using ho
def FinT (w0 : World) (n : Nat) (F : Nat → Option (Value → World → Prop)) (fv : Nat → Value) (L : Act → World → Prop) (a : Act) : Prop := ∀ w, Cls w0 (allFacts n F fv) w → L a w
theorem Ext.agreeT {fv X : Nat → Value} {G : World → Prop} {L : Act → Prop} {A : Nat → Act} (ok : OkT ops m n) (e : Ext P ops w0 F fv G L m (headOps ops m n) a0 X A) : ∀ i, m ≤ i → i ≤ n → Agree ops a0 X (fun k => m ≤ k ∧ k < i) (A i) := by
  intro i
  induction i with
  | zero =>
    intro hm _
    have h0 : m = 0 := by omega
    subst h0
    rw [e.start]
    exact (Agree.refl ops a0 X).congr (fun k => by simp) (fun k h => h.elim)
  | succ i ih =>
    intro hm hn
    by_cases hmi : m = i + 1
    · subst hmi
      rw [e.start]
      exact (Agree.refl ops a0 X).congr (fun k => ⟨fun h => h.elim, fun h => by omega⟩) (fun k h => h.elim)
    · have hlt := ok.lt
      obtain ⟨o, ho⟩ : ∃ o, ops[i]? = some o := ⟨_, Array.getElem?_eq_getElem (by omega)⟩
      have h1 := e.next (i - m) o (headOps_at (by omega) (by omega) ho)
      rw [show m + (i - m) + 1 = i + 1 by omega, show m + (i - m) = i by omega] at h1
      rw [h1]
      exact ((ih (by omega) (by omega)).put ok.dis ho).congr (fun k => by omega) (fun _ _ => rfl)
structure RegT (P : Program) (ops : Array Oper) (w0 : World) (F : Nat → Option (Value → World → Prop)) (L : Act → World → Prop) (a0 : Act) (m n : Nat) (seen : Array Bool) (a : Act) (w : World) : Prop where
  head : HeadInv .any ops n seen
  low : ∀ k, k < m → Seen seen k
  keep : Keep (fun _ => False) w0 w
  run : ∃ fv G X A, (∀ w w', Keep (fun _ => False) w w' → G w → G w') ∧ G w ∧ Ext P ops w0 F fv G (FinT w0 n F fv L) m (headOps ops m n) a0 X A ∧ Agree ops a0 X (fun k => m ≤ k ∧ Seen seen k) a ∧ (∀ i f, m ≤ i → Seen seen i → F i = some f → f (fv i) w)
theorem headInv_below {seen : Array Bool} (h : HeadInv .any ops n seen) {i : Nat} (hs : Seen seen i) : i < n := by
  rcases Nat.lt_or_ge i n with h1 | h1
  · exact h1
  · exfalso
    unfold Seen at hs
    rcases Nat.lt_or_ge i ops.size with h2 | h2
    · have h3 := h.tail i h1 h2
      rw [Array.getD_eq_getD_getElem?, Array.getElem?_eq_getElem (by rw [h.size]; exact h2)] at h3 hs
      simp at h3 hs
      rw [h3] at hs
      cases hs
    · rw [Array.getD_eq_getD_getElem?, Array.getElem?_eq_none (by rw [h.size]; exact h2)] at hs
      cases hs
theorem regT_cls {i : Nat} {o : Oper} {fv : Nat → Value} {G : World → Prop} {seen : Array Bool} {w : World} (hFm : ∀ j f, F j = some f → m ≤ j) (hg : G w) (hk : Keep (fun _ => False) w0 w) (_ : ops[i]? = some o) (hdeps : ∀ (j : Nat) (oj : Oper) (d : Tmp), ops[j]? = some oj → oj.dst = some d → d ∈ o.looksAt ops → j < m ∨ Seen seen j)
    (hf : ∀ i f, m ≤ i → Seen seen i → F i = some f → f (fv i) w) : Cls w0 (factsOf ops F fv G o) w :=
  ⟨⟨w, hk, fun j f d hj hd hl => by
    cases hoj : ops[j]? with
    | none => rw [hoj] at hd; cases hd
    | some oj =>
      rw [hoj] at hd
      have hm := hFm j f hj
      exact hf j f hm ((hdeps j oj d hoj hd hl).resolve_left (by omega)) hj, hg⟩, rfl⟩
theorem regT_same {L : Act → World → Prop} {fv fv' X X' : Nat → Value} {G G' : World → Prop} {A A' : Nat → Act} (ok : OkT ops m n) (hFm : ∀ j f, F j = some f → m ≤ j) (e : Ext P ops w0 F fv G (FinT w0 n F fv L) m (headOps ops m n) a0 X A) (e' : Ext P ops w0 F fv' G' (FinT w0 n F fv' L) m (headOps ops m n) a0 X' A') {seen : Array Bool} {w : World}
    (hh : HeadInv .any ops n seen) (hk : Keep (fun _ => False) w0 w)
    (hf : ∀ i f, m ≤ i → Seen seen i → F i = some f → f (fv i) w) (hv : ∀ i, m ≤ i → Seen seen i → fv i = fv' i) (hg : G w) (hg' : G' w) : ∀ i, m ≤ i → Seen seen i → X i = X' i := by
  intro i
  induction i using Nat.strongRecOn with
  | _ i ih =>
    intro hmi hs
    have hin := headInv_below hh hs
    have hlt := ok.lt
    obtain ⟨o, ho⟩ : ∃ o, ops[i]? = some o := ⟨_, Array.getElem?_eq_getElem (by omega)⟩
    have hdep : ∀ (j : Nat) (oj : Oper) (d : Tmp), ops[j]? = some oj → oj.dst = some d → d ∈ o.looksAt ops → j < i ∧ (j < m ∨ Seen seen j) := fun j oj d hj hd hl => by
      obtain ⟨h1, h2⟩ := ok.look i o j oj d hmi hin ho hj hd hl
      refine ⟨h1, ?_⟩
      rcases h2 with h2 | ⟨ed, hed, hb, hon⟩
      · exact .inl h2
      · exact .inr (hon ▸ hh.closed i o ho hs ed hed hb)
    have ob := e.ob (i - m) o (headOps_at hmi hin ho)
    have ob' := e'.ob (i - m) o (headOps_at hmi hin ho)
    rw [show m + (i - m) = i by omega] at ob ob'
    cases hFi : F i with
    | some f => rw [e.same i f hFi, e'.same i f hFi]; exact hv i hmi hs
    | none =>
      unfold Ob at ob ob'
      rw [hFi] at ob ob'
      dsimp only at ob ob'
      have hsame := same_of_look (a := A i) (b := A' i) (Region.noSelect_spec ok.sel i o · · ho) (fun t ht => (e.agreeT ok i hmi (by omega)).at2 ok.dis (e'.agreeT ok i hmi (by omega)) t (fun k ok' hk' hd => by
        obtain ⟨h1, h2⟩ := hdep k ok' t hk' hd ht
        by_cases hkm : m ≤ k
        · exact .inl ⟨⟨hkm, h1⟩, ⟨hkm, h1⟩, ih k h1 hkm (h2.resolve_left (by omega))⟩
        · exact .inr ⟨fun h => hkm h.1, fun h => hkm h.1⟩))
      have c1 : Cls w0 (factsOf ops F fv G o) w := regT_cls hFm hg hk ho (fun j oj d hj hd hl => (hdep j oj d hj hd hl).2) hf
      have c2 : Cls w0 (factsOf ops F fv' G' o) w := regT_cls hFm hg' hk ho (fun j oj d hj hd hl => (hdep j oj d hj hd hl).2) (fun j f hjm hj hfj => hv j hjm hj ▸ hf j f hjm hj hfj)
      rcases ob with ⟨hw, hq⟩ | ⟨hw, hx⟩ <;> rcases ob' with ⟨hw', hq'⟩ | ⟨hw', hx'⟩
      · have q1 := hq w c1
        have q2 := hq' w c2
        unfold Oper.quietAt at q1 q2
        rw [← hsame.1] at q2
        exact quietUpon_det q1 q2
      · rw [hsame.2, hw'] at hw; cases hw
      · rw [hsame.2, hw'] at hw; cases hw
      · rw [hx, hx']
theorem regT_step {L : Act → World → Prop} (ok : OkT ops m n) (hFm : ∀ j f, F j = some f → m ≤ j) (hF : ∀ i f, F i = some f → ∀ v w w', Keep (fun _ => False) w w' → f v w → f v w') (hW : ∀ fv G, (∀ w w', Keep (fun _ => False) w w' → G w → G w') → wpF P ops w0 F fv G (FinT w0 n F fv L) m (headOps ops m n) a0) (seen : Array Bool) (a : Act) (w : World) (i : Nat) (hI : RegT P ops w0 F L a0 m n seen a w) (hr : i ∈ Region.ready .any ops seen) (hin : i < n) :
    wpOp P ops Q i (fun a' w' => RegT P ops w0 F L a0 m n (seen.setIfInBounds i true) a' w') a w := by
  obtain ⟨hun, o, ho, hall⟩ := mem_ready.1 hr
  have hlt : i < ops.size := (Array.getElem?_eq_some_iff.1 ho).1
  have hlt' : i < seen.size := by rw [hI.head.size]; exact hlt
  have hni : ¬ Seen seen i := by
    unfold Seen
    rw [Array.getD_eq_getD_getElem?, Array.getElem?_eq_getElem hlt'] at hun ⊢
    simp only [Option.getD_some] at hun ⊢
    rw [hun]; exact Bool.false_ne_true
  have hmi : m ≤ i := Nat.le_of_not_lt fun h => hni (hI.low i h)
  obtain ⟨fv, G', X', A', hGk', hg', e', hag', hfacts⟩ := hI.run
  have hGk : ∀ w1 w2, Keep (fun _ => False) w1 w2 → (fun x => Keep (fun _ => False) w x) w1 → (fun x => Keep (fun _ => False) w x) w2 := fun w1 w2 k h => h.trans k
  obtain ⟨X, A, e⟩ := wpF_ext _ _ _ (hW fv (fun x => Keep (fun _ => False) w x) hGk)
  have hg : (fun x => Keep (fun _ => False) w x) w := Keep.refl _ _
  have hag : Agree ops a0 X (fun k => m ≤ k ∧ Seen seen k) a := hag'.congr (fun _ => Iff.rfl) (fun k hk => regT_same ok hFm e' e hI.head hI.keep hfacts (fun _ _ _ => rfl) hg' hg k hk.1 hk.2)
  clear hag' e' hg' hGk' X' A' G'
  have hdep : ∀ (j : Nat) (oj : Oper) (d : Tmp), ops[j]? = some oj → oj.dst = some d → d ∈ o.looksAt ops → j < i ∧ (j < m ∨ Seen seen j) := fun j oj d hj hd hl => by
    obtain ⟨h1, h2⟩ := ok.look i o j oj d hmi hin ho hj hd hl
    refine ⟨h1, ?_⟩
    rcases h2 with h2 | ⟨ed, hed, hb, hon⟩
    · exact .inl h2
    · exact .inr (hon ▸ hall ed hed hb)
  have hsame := same_of_look (a := a) (b := A i) (Region.noSelect_spec ok.sel i o · · ho) (fun t ht => hag.at2 ok.dis (e.agreeT ok i hmi (by omega)) t (fun k ok' hk' hd => by
    obtain ⟨h1, h2⟩ := hdep k ok' t hk' hd ht
    by_cases hkm : m ≤ k
    · exact .inl ⟨⟨hkm, h2.resolve_left (by omega)⟩, ⟨hkm, h1⟩, rfl⟩
    · exact .inr ⟨fun h => hkm h.1, fun h => hkm h.1⟩))
  have c1 : Cls w0 (factsOf ops F fv (fun x => Keep (fun _ => False) w x) o) w := regT_cls hFm hg hI.keep ho (fun j oj d hj hd hl => (hdep j oj d hj hd hl).2) hfacts
  have hhead := hI.head.set hr hin
  have hlow : ∀ k, k < m → Seen (seen.setIfInBounds i true) k := fun k hk => (seen_set hlt' k).2 (.inr (hI.low k hk))
  have hset : ∀ k, (k = i ∨ (m ≤ k ∧ Seen seen k)) ↔ (m ≤ k ∧ Seen (seen.setIfInBounds i true) k) := fun k => by
    rw [seen_set hlt']
    constructor
    · rintro (rfl | ⟨h1, h2⟩)
      · exact ⟨hmi, .inl rfl⟩
      · exact ⟨h1, .inr h2⟩
    · rintro ⟨h1, h2 | h2⟩
      · exact .inl h2
      · exact .inr ⟨h1, h2⟩
  have ob := e.ob (i - m) o (headOps_at hmi hin ho)
  rw [show m + (i - m) = i by omega] at ob
  unfold Ob at ob
  unfold wpOp
  simp only [ho]
  cases hFi : F i with
  | none =>
    rw [hFi] at ob
    dsimp only at ob
    have fin : ∀ w', Keep (fun _ => False) w w' → RegT P ops w0 F L a0 m n (seen.setIfInBounds i true) (a.put o.dst (X i)) w' := fun w' hk =>
      ⟨hhead, hlow, hI.keep.trans hk, fv, _, X, A, hGk, hk, e, (hag.put ok.dis ho).congr hset (fun _ _ => rfl), fun j f hjm hs hf => by
        rcases (seen_set hlt' j).1 hs with rfl | hs
        · rw [hFi] at hf; cases hf
        · exact hF j f hf _ _ _ hk (hfacts j f hjm hs hf)⟩
    rcases ob with ⟨hw, hq⟩ | ⟨hw, hx⟩
    · rw [if_pos (by rw [hsame.2]; exact hw)]
      refine .inl ?_
      have q := hq w c1
      unfold Oper.quietAt at q
      rw [← hsame.1] at q
      unfold Oper.wp
      generalize (execOp a.eval o).run P w = r at *
      cases r with
      | ok nx w' =>
        cases nx <;> simp only [Oper.quietUpon] at q <;> simp only [Oper.upon]
        case value u =>
          obtain ⟨e1, e2⟩ := q
          rw [e1, e2]
          exact fin w (Keep.refl _ _)
        case skip =>
          obtain ⟨e1, e2⟩ := q
          rw [e1, ← e2]
          exact fin w (Keep.refl _ _)
        case enter f args =>
          obtain ⟨e1, hc⟩ := q
          rw [e1]
          exact hc.mono fun e' w'' ⟨he, g, hg2⟩ => by subst he; exact fin w'' (hg2 ▸ g.fact.2)
      | halt x w' => simp only [Oper.quietUpon] at q
    · rw [if_neg (by rw [hsame.2, hw]; exact Bool.false_ne_true), ← hx]
      exact fin w (Keep.refl _ _)
  | some f =>
    rw [hFi] at ob
    dsimp only at ob
    have fin : ∀ v w', Keep (fun _ => False) w w' → f v w' → RegT P ops w0 F L a0 m n (seen.setIfInBounds i true) (a.put o.dst v) w' := fun v w' hk hfv => by
      obtain ⟨X', A', e'⟩ := wpF_ext _ _ _ (hW (fun j => if j = i then v else fv j) _ hGk)
      have hv : ∀ j, m ≤ j → Seen seen j → fv j = (fun j => if j = i then v else fv j) j := fun j _ hj => by
        have : j ≠ i := fun e => hni (e ▸ hj)
        simp only [if_neg this]
      have hX := regT_same ok hFm e e' hI.head hI.keep hfacts hv hg hg
      have hXi : X' i = v := by rw [e'.same i f hFi]; simp
      refine ⟨hhead, hlow, hI.keep.trans hk, _, _, X', A', hGk, hk, e', ?_, fun j g hjm hs hg => ?_⟩
      · rw [← hXi]
        exact ((hag.congr (fun _ => Iff.rfl) (fun k hk => hX k hk.1 hk.2)).put ok.dis ho).congr hset (fun _ _ => rfl)
      · rcases (seen_set hlt' j).1 hs with rfl | hs
        · rw [hFi] at hg; cases hg
          simpa using hfv
        · have := hv j hjm hs
          dsimp only at this ⊢
          rw [← this]
          exact hF j g hg _ _ _ hk (hfacts j g hjm hs hg)
    obtain ⟨hw, hq⟩ := ob
    rw [if_pos (by rw [hsame.2]; exact hw)]
    refine .inl ?_
    have q := hq w c1
    rw [← hsame.1] at q
    unfold Oper.wp
    generalize (execOp a.eval o).run P w = r at *
    cases r with
    | ok nx w' =>
      cases nx <;> simp only [makesUpon] at q <;> simp only [Oper.upon]
      case value u => exact fin u w' q.2 q.1
      case enter g args =>
        obtain ⟨e1, hc⟩ := q
        rw [e1]
        exact hc.mono fun e w'' ⟨v, he, hfv, hk⟩ => by subst he; exact fin v w'' hk hfv
    | halt x w' => simp only [makesUpon] at q
/-- Behind the head: the forced tail. -/
theorem regT_tail {L : Act → World → Prop} (ok : OkT ops m n) (hFm' : ∀ j f, F j = some f → m ≤ j) (hL : ∀ a w, L a w → wpList P ops Q (ops.toList.drop n) a w) (seen : Array Bool) (a : Act) (w : World) (hI : RegT P ops w0 F L a0 m n seen a w) (hall : ∀ i, i < n → Seen seen i) : wpAny P .any ops Q (ops.size - n) seen a w := by
  have hseen : seen = Array.ofFn (n := ops.size) fun i => decide (i.val < n) := by
    apply Array.ext
    · simp [hI.head.size]
    · intro i h1 h2
      rw [Array.getElem_ofFn]
      by_cases hin : i < n
      · have := hall i hin
        unfold Seen at this
        rw [Array.getD_eq_getD_getElem?, Array.getElem?_eq_getElem h1] at this
        simpa [hin] using this
      · have := hI.head.tail i (by omega) (by rw [← hI.head.size]; exact h1)
        rw [Array.getD_eq_getD_getElem?, Array.getElem?_eq_getElem h1] at this
        simpa [hin] using this
  have hq := ok.seq
  rw [← hseen] at hq
  obtain ⟨fv, G, X, A, hGk, hg, e, hag, hfacts⟩ := hI.run
  have h1 := e.agreeT ok n ok.le (Nat.le_refl _)
  have h2 : a = A n := by
    have hlow := hI.low
    have ht : a.tmps = (A n).tmps := Array.ext_getElem? fun t => hag.at2 ok.dis h1 t fun k o hk _ => by
      by_cases hm : m ≤ k
      · by_cases hn : k < n
        · exact .inl ⟨⟨hm, hall k hn⟩, ⟨hm, hn⟩, rfl⟩
        · exact .inr ⟨fun h => hn (headInv_below hI.head h.2), fun h => hn h.2⟩
      · exact .inr ⟨fun h => hm h.1, fun h => hm h.1⟩
    have hd : a.defers = (A n).defers := hag.defers.trans h1.defers.symm
    cases a
    generalize A n = b at *
    cases b
    simp_all
  have h3 := e.fin
  have hlen : m + (headOps ops m n).length = n := by
    have := ok.le; have := ok.lt
    unfold headOps
    simp
    omega
  rw [hlen, ← h2] at h3
  have h4 := hL a w (h3 w ⟨⟨w, hI.keep, fun i f hf hi => by
    by_cases hm : m ≤ i
    · exact hfacts i f hm (hall i hi) hf
    · exact absurd (hFm' i f hf) hm⟩, rfl⟩)
  have hdl : (ops.toList.drop n).length = ops.size - n := by simp
  have := wpAny_of_seq (md := .any) (Q' := Q) (ops.toList.drop n) n seen a w (fun j => by simp [List.getElem?_drop]) (by rw [hdl]; exact hq) h4
  rwa [hdl] at this
end
end Go.Proofs.Ythcagpgdekhaeaa
