/- The region's law, out of the walk in the text's order. No condition. -/
import Derived.Test.YthcagpgdekhaeaaFacts
namespace Go.Proofs.Ythcagpgdekhaeaa
section
variable {P : Program} {ops : Array Oper} {w0 : World} {F : Nat → Option (Value → World → Prop)} {Q : Exit → Act → World → Prop} {a0 : Act}
def Seen (seen : Array Bool) (i : Nat) : Prop := seen.getD i false = true
theorem seen_set {seen : Array Bool} {i : Nat} (hi : i < seen.size) (k : Nat) : Seen (seen.setIfInBounds i true) k ↔ k = i ∨ Seen seen k := by
  unfold Seen
  by_cases hki : i = k
  · subst hki
    simp [Array.getD_eq_getD_getElem?, hi]
  · rw [getD_set_ne false hki]
    constructor
    · exact .inr
    · rintro (h | h)
      · exact absurd h.symm hki
      · exact h
/-- What each walk shows: the final step holds, wherever the facts hold. -/
def Fin (w0 : World) (n : Nat) (F : Nat → Option (Value → World → Prop)) (fv : Nat → Value) (Q : Exit → Act → World → Prop) (a : Act) : Prop := ∀ w, Cls w0 (allFacts n F fv) w → Q .normal a w
structure RegInv (P : Program) (ops : Array Oper) (w0 : World) (F : Nat → Option (Value → World → Prop)) (Q : Exit → Act → World → Prop) (a0 : Act) (seen : Array Bool) (a : Act) (w : World) : Prop where
  size : seen.size = ops.size
  closed : ∀ (i : Nat) (o : Oper), ops[i]? = some o → Seen seen i → ∀ e ∈ o.after, Region.binds .any e = true → Seen seen e.on
  keep : Keep (fun _ => False) w0 w
  run : ∃ fv G X A, (∀ w w', Keep (fun _ => False) w w' → G w → G w') ∧ G w ∧ Ext P ops w0 F fv G (Fin w0 ops.size F fv Q) 0 ops.toList a0 X A ∧ Agree ops a0 X (Seen seen) a ∧ (∀ i f, Seen seen i → F i = some f → f (fv i) w)
theorem Ext.agree {fv X : Nat → Value} {G : World → Prop} {L : Act → Prop} {A : Nat → Act} (hd : Distinct ops) (e : Ext P ops w0 F fv G L 0 ops.toList a0 X A) : ∀ i, i ≤ ops.size → Agree ops a0 X (fun k => k < i) (A i)
  | 0, _ => by rw [e.start]; exact (Agree.refl ops a0 X).congr (fun k => by simp) (fun k h => h.elim)
  | i + 1, hi => by
    obtain ⟨o, ho⟩ : ∃ o, ops[i]? = some o := ⟨_, Array.getElem?_eq_getElem (by omega)⟩
    have h1 := e.next i o (by simpa using ho)
    rw [Nat.zero_add] at h1
    rw [h1]
    exact ((Ext.agree hd e i (by omega)).put hd ho).congr (fun k => by omega) (fun _ _ => rfl)
theorem reg_cls {i : Nat} {o : Oper} {fv : Nat → Value} {G : World → Prop} {seen : Array Bool} {w : World} (_ : ops[i]? = some o) (hg : G w) (hk : Keep (fun _ => False) w0 w) (hdeps : ∀ (j : Nat) (oj : Oper) (d : Tmp), ops[j]? = some oj → oj.dst = some d → d ∈ o.looksAt ops → Seen seen j)
    (hf : ∀ i f, Seen seen i → F i = some f → f (fv i) w) : Cls w0 (factsOf ops F fv G o) w :=
  ⟨⟨w, hk, fun j f d hj hd hl => by
    cases hoj : ops[j]? with
    | none => rw [hoj] at hd; cases hd
    | some oj => rw [hoj] at hd; exact hf j f (hdeps j oj d hoj hd hl) hj, hg⟩, rfl⟩
/-- Two runs that agree on the made values of what is seen agree on all values of what is seen. -/
theorem reg_same {fv fv' X X' : Nat → Value} {G G' : World → Prop} {L L' : Act → Prop} {A A' : Nat → Act} (hok : okF ops = true) (e : Ext P ops w0 F fv G L 0 ops.toList a0 X A) (e' : Ext P ops w0 F fv' G' L' 0 ops.toList a0 X' A') {seen : Array Bool} {w : World}
    (hsz : seen.size = ops.size) (hcl : ∀ (i : Nat) (o : Oper), ops[i]? = some o → Seen seen i → ∀ e ∈ o.after, Region.binds .any e = true → Seen seen e.on) (hk : Keep (fun _ => False) w0 w)
    (hf : ∀ i f, Seen seen i → F i = some f → f (fv i) w) (hv : ∀ i, Seen seen i → fv i = fv' i) (hg : G w) (hg' : G' w) : ∀ i, Seen seen i → X i = X' i := by
  obtain ⟨hsel, hback, hdis, hlook⟩ := okF_spec hok
  intro i
  induction i using Nat.strongRecOn with
  | _ i ih =>
    intro hs
    have hlt : i < ops.size := by
      rcases Nat.lt_or_ge i ops.size with h | h
      · exact h
      · unfold Seen at hs; rw [Array.getD_eq_getD_getElem?, Array.getElem?_eq_none (by omega)] at hs; cases hs
    obtain ⟨o, ho⟩ : ∃ o, ops[i]? = some o := ⟨_, Array.getElem?_eq_getElem hlt⟩
    have hdep : ∀ (j : Nat) (oj : Oper) (d : Tmp), ops[j]? = some oj → oj.dst = some d → d ∈ o.looksAt ops → j < i ∧ Seen seen j := fun j oj d hj hd hl => by
      obtain ⟨h1, ed, hed, hb, hon⟩ := hlook i o j oj d ho hj hd hl
      exact ⟨h1, hon ▸ hcl i o ho hs ed hed hb⟩
    have ob := e.ob i o (by simpa using ho)
    have ob' := e'.ob i o (by simpa using ho)
    rw [Nat.zero_add] at ob ob'
    cases hFi : F i with
    | some f => rw [e.same i f hFi, e'.same i f hFi]; exact hv i hs
    | none =>
      unfold Ob at ob ob'
      rw [hFi] at ob ob'
      dsimp only at ob ob'
      have hsame := same_of_look (a := A i) (b := A' i) (Region.noSelect_spec hsel i o · · ho) (fun t ht => (e.agree hdis i (by omega)).at (e'.agree hdis i (by omega)) t (fun k ok hk' hd => by
        obtain ⟨h1, h2⟩ := hdep k ok t hk' hd ht
        exact ⟨h1, h1, ih k h1 h2⟩))
      have c1 : Cls w0 (factsOf ops F fv G o) w := reg_cls ho hg hk (fun j oj d hj hd hl => (hdep j oj d hj hd hl).2) hf
      have c2 : Cls w0 (factsOf ops F fv' G' o) w := reg_cls ho hg' hk (fun j oj d hj hd hl => (hdep j oj d hj hd hl).2) (fun j f hj hfj => hv j hj ▸ hf j f hj hfj)
      rcases ob with ⟨hw, hq⟩ | ⟨hw, hx⟩ <;> rcases ob' with ⟨hw', hq'⟩ | ⟨hw', hx'⟩
      · have q1 := hq w c1
        have q2 := hq' w c2
        unfold Oper.quietAt at q1 q2
        rw [← hsame.1] at q2
        exact quietUpon_det q1 q2
      · rw [hsame.2, hw'] at hw; cases hw
      · rw [hsame.2, hw'] at hw; cases hw
      · rw [hx, hx']
theorem reg_step (hF : ∀ i f, F i = some f → ∀ v w w', Keep (fun _ => False) w w' → f v w → f v w') (hok : okF ops = true) (hW : ∀ fv G, (∀ w w', Keep (fun _ => False) w w' → G w → G w') → wpF P ops w0 F fv G (Fin w0 ops.size F fv Q) 0 ops.toList a0) (seen : Array Bool) (a : Act) (w : World) (i : Nat) (hI : RegInv P ops w0 F Q a0 seen a w) (hr : i ∈ Region.ready .any ops seen) :
    wpOp P ops Q i (fun a' w' => RegInv P ops w0 F Q a0 (seen.setIfInBounds i true) a' w') a w := by
  obtain ⟨hsel, hback, hdis, hlook⟩ := okF_spec hok
  obtain ⟨hun, o, ho, hall⟩ := mem_ready.1 hr
  have hlt : i < ops.size := (Array.getElem?_eq_some_iff.1 ho).1
  have hlt' : i < seen.size := by rw [hI.size]; exact hlt
  have hni : ¬ Seen seen i := by
    unfold Seen
    rw [Array.getD_eq_getD_getElem?, Array.getElem?_eq_getElem hlt'] at hun ⊢
    simp only [Option.getD_some] at hun ⊢
    rw [hun]; exact Bool.false_ne_true
  obtain ⟨fv, G', X', A', hGk', hg', e', hag', hfacts⟩ := hI.run
  have hGk : ∀ w1 w2, Keep (fun _ => False) w1 w2 → (fun x => Keep (fun _ => False) w x) w1 → (fun x => Keep (fun _ => False) w x) w2 := fun w1 w2 k h => h.trans k
  obtain ⟨X, A, e⟩ := wpF_ext _ _ _ (hW fv (fun x => Keep (fun _ => False) w x) hGk)
  have hg : (fun x => Keep (fun _ => False) w x) w := Keep.refl _ _
  have hag : Agree ops a0 X (Seen seen) a := hag'.congr (fun _ => Iff.rfl) (reg_same hok e' e hI.size hI.closed hI.keep hfacts (fun _ _ => rfl) hg' hg)
  clear hag' e' hg' hGk' X' A' G'
  have hdep : ∀ (j : Nat) (oj : Oper) (d : Tmp), ops[j]? = some oj → oj.dst = some d → d ∈ o.looksAt ops → j < i ∧ Seen seen j := fun j oj d hj hd hl => by
    obtain ⟨h1, ed, hed, hb, hon⟩ := hlook i o j oj d ho hj hd hl
    exact ⟨h1, hon ▸ hall ed hed hb⟩
  have hsame := same_of_look (a := a) (b := A i) (Region.noSelect_spec hsel i o · · ho) (fun t ht => hag.at (e.agree hdis i (by omega)) t (fun k ok hk' hd => by
    obtain ⟨h1, h2⟩ := hdep k ok t hk' hd ht
    exact ⟨h2, h1, rfl⟩))
  have c1 : Cls w0 (factsOf ops F fv (fun x => Keep (fun _ => False) w x) o) w := reg_cls ho hg hI.keep (fun j oj d hj hd hl => (hdep j oj d hj hd hl).2) hfacts
  have hclosed : ∀ (k : Nat) (ok : Oper), ops[k]? = some ok → Seen (seen.setIfInBounds i true) k → ∀ e ∈ ok.after, Region.binds .any e = true → Seen (seen.setIfInBounds i true) e.on := by
    intro k ok hk hs e he hb
    rw [seen_set hlt'] at hs ⊢
    rcases hs with rfl | hs
    · rw [ho] at hk; cases hk
      exact .inr (hall e he hb)
    · exact .inr (hI.closed k ok hk hs e he hb)
  have hsz : (seen.setIfInBounds i true).size = ops.size := by rw [Array.size_setIfInBounds]; exact hI.size
  have ob := e.ob i o (by simpa using ho)
  rw [Nat.zero_add] at ob
  unfold Ob at ob
  unfold wpOp
  simp only [ho]
  cases hFi : F i with
  | none =>
    rw [hFi] at ob
    dsimp only at ob
    have fin : ∀ w', Keep (fun _ => False) w w' → RegInv P ops w0 F Q a0 (seen.setIfInBounds i true) (a.put o.dst (X i)) w' := fun w' hk =>
      ⟨hsz, hclosed, hI.keep.trans hk, fv, _, X, A, hGk, hk, e, (hag.put hdis ho).congr (fun k => (seen_set hlt' k).symm) (fun _ _ => rfl), fun j f hs hf => by
        rcases (seen_set hlt' j).1 hs with rfl | hs
        · rw [hFi] at hf; cases hf
        · exact hF j f hf _ _ _ hk (hfacts j f hs hf)⟩
    rcases ob with ⟨hw, hq⟩ | ⟨hw, hx⟩
    · rw [if_pos (by rw [hsame.2]; exact hw)]
      refine .inl ?_
      have q := hq w c1
      unfold Oper.quietAt at q
      rw [← hsame.1] at q
      unfold Oper.wp
      generalize (execOp a.eval o).run P w = r at *
      cases r with
      | ok n w' =>
        cases n <;> simp only [Oper.quietUpon] at q <;> simp only [Oper.upon]
        case value u =>
          obtain ⟨e1, e2⟩ := q
          rw [e1, e2]
          exact fin w (Keep.refl _ _)
        case skip =>
          obtain ⟨e1, e2⟩ := q
          rw [e1, ← e2]
          exact fin w (Keep.refl _ _)
        case enter f args =>
          obtain ⟨e1, hc⟩ := q
          rw [e1]
          exact hc.mono fun e' w'' ⟨he, g, hg2⟩ => by subst he; exact fin w'' (hg2 ▸ g.fact.2)
      | halt x w' => simp only [Oper.quietUpon] at q
    · rw [if_neg (by rw [hsame.2, hw]; exact Bool.false_ne_true), ← hx]
      exact fin w (Keep.refl _ _)
  | some f =>
    rw [hFi] at ob
    dsimp only at ob
    have fin : ∀ v w', Keep (fun _ => False) w w' → f v w' → RegInv P ops w0 F Q a0 (seen.setIfInBounds i true) (a.put o.dst v) w' := fun v w' hk hfv => by
      obtain ⟨X', A', e'⟩ := wpF_ext _ _ _ (hW (fun j => if j = i then v else fv j) _ hGk)
      have hv : ∀ j, Seen seen j → fv j = (fun j => if j = i then v else fv j) j := fun j hj => by
        have : j ≠ i := fun e => hni (e ▸ hj)
        simp only [if_neg this]
      have hX := reg_same hok e e' hI.size hI.closed hI.keep hfacts hv hg hg
      have hXi : X' i = v := by rw [e'.same i f hFi]; simp
      refine ⟨hsz, hclosed, hI.keep.trans hk, _, _, X', A', hGk, hk, e', ?_, fun j g hs hg => ?_⟩
      · rw [← hXi]
        exact ((hag.congr (fun _ => Iff.rfl) hX).put hdis ho).congr (fun k => (seen_set hlt' k).symm) (fun _ _ => rfl)
      · rcases (seen_set hlt' j).1 hs with rfl | hs
        · rw [hFi] at hg; cases hg
          simpa using hfv
        · have := hv j hs
          dsimp only at this ⊢
          rw [← this]
          exact hF j g hg _ _ _ hk (hfacts j g hs hg)
    obtain ⟨hw, hq⟩ := ob
    rw [if_pos (by rw [hsame.2]; exact hw)]
    refine .inl ?_
    have q := hq w c1
    rw [← hsame.1] at q
    unfold Oper.wp
    generalize (execOp a.eval o).run P w = r at *
    cases r with
    | ok n w' =>
      cases n <;> simp only [makesUpon] at q <;> simp only [Oper.upon]
      case value u => exact fin u w' q.2 q.1
      case enter g args =>
        obtain ⟨e1, hc⟩ := q
        rw [e1]
        exact hc.mono fun e w'' ⟨v, he, hfv, hk⟩ => by subst he; exact fin v w'' hk hfv
    | halt x w' => simp only [makesUpon] at q
theorem all_seen (hok : okF ops = true) {seen : Array Bool} (hsz : seen.size = ops.size) (hr : Region.ready .any ops seen = []) : ∀ i, i < ops.size → Seen seen i := by
  obtain ⟨_, hback, _, _⟩ := okF_spec hok
  intro i
  induction i using Nat.strongRecOn with
  | _ i ih =>
    intro hlt
    by_cases hs : Seen seen i
    · exact hs
    · exfalso
      have hm : i ∈ Region.ready .any ops seen := by
        rw [mem_ready]
        refine ⟨?_, ops[i], Array.getElem?_eq_getElem hlt, fun e he hb => ?_⟩
        · unfold Seen at hs
          rw [Array.getD_eq_getD_getElem?, Array.getElem?_eq_getElem (by omega)] at hs ⊢
          simpa using hs
        · have h1 := hback i ops[i] (Array.getElem?_eq_getElem hlt) e he hb
          exact ih _ h1 (by omega)
      rw [hr] at hm
      cases hm
/-- ONE WALK IN THE TEXT's ORDER SERVES EVERY ORDER, also where operations make memory: F tells, of those, what their value is good for. -/
theorem wp_region_facts {id : Nat} {w : World} {l : List Oper} (F : Nat → Option (Value → World → Prop)) (hm : P.follows .mixedOrders = true) (hok : okF l.toArray = true) (hF : ∀ i f, F i = some f → ∀ v w w', Keep (fun _ => False) w w' → f v w → f v w')
    (h : ∀ fv G, (∀ w w', Keep (fun _ => False) w w' → G w → G w') → wpF P l.toArray w F fv G (fun a => ∀ w', Cls w (allFacts l.length F fv) w' → Q .normal a w') 0 l a0) : (Code.region id l.toArray true).wp P Q a0 w := by
  refine wp_region_any hm ?_
  have hW : ∀ fv G, (∀ w w', Keep (fun _ => False) w w' → G w → G w') → wpF P l.toArray w F fv G (Fin w l.toArray.size F fv Q) 0 l.toArray.toList a0 := by
    intro fv G hG
    exact h fv G hG
  refine wpAny_inv (RegInv P l.toArray w F Q a0) (fun _ _ _ hI => hI.size) (fun seen a w i hI hr => reg_step hF hok hW seen a w i hI hr) (fun seen a w' hI hr => ?_) _ _ _ _ (by
    unfold undone
    refine Nat.le_trans List.countP_le_length ?_
    simp) ⟨by simp, fun i o _ hs => ?_, Keep.drewN _ _ 1, ?_⟩
  · obtain ⟨fv, G, X, A, hGk, hg, e, hag, hfacts⟩ := hI.run
    have hall := all_seen hok hI.size hr
    obtain ⟨_, _, hdis, _⟩ := okF_spec hok
    have h1 := e.agree hdis l.toArray.size (Nat.le_refl _)
    have h2 : a = A l.toArray.size := hag.eq h1 (fun k hk => ⟨hall k hk, hk⟩)
    have h3 := e.fin
    rw [Nat.zero_add, Array.length_toList, ← h2] at h3
    exact h3 w' ⟨⟨w', hI.keep, fun i f hf hi => hfacts i f (hall i hi) hf⟩, rfl⟩
  · unfold Seen at hs
    rw [getD_replicate_false] at hs
    cases hs
  · obtain ⟨X, A, e⟩ := wpF_ext _ _ _ (hW (fun _ => undef) (fun _ => True) (fun _ _ _ h => h))
    refine ⟨_, _, X, A, fun _ _ _ h => h, trivial, e, (Agree.refl _ _ X).congr (fun k => ?_) (fun _ h => h.elim), fun i f hs => ?_⟩
    · unfold Seen
      rw [getD_replicate_false]
      simp
    · unfold Seen at hs
      rw [getD_replicate_false] at hs
      cases hs
end
end Go.Proofs.Ythcagpgdekhaeaa
