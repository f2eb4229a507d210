/- A region that draws its order, some of whose operations make memory (their values are not known ahead: a fresh address): one walk in the text's order serves every order. No condition. -/
import Derived.Test.YthcagpgdekhaeaaDet
import Derived.Test.YthcagpgdekhaeaaInv
namespace Go.Proofs.Ythcagpgdekhaeaa
/-- A later world of which something is known. -/
structure LaterF (w : World) (fct : World → Prop) where
  world : World
  keep : Keep (fun _ => False) w world
  fact : fct world
def Cls (w : World) (fct : World → Prop) : World → Prop := fun w' => ∃ g : LaterF w fct, w' = g.world
section
variable {P : Program}
/-- An operation that makes memory: its value is of f. -/
def makesUpon (P : Program) (f : Value → World → Prop) (w : World) : Result Next → Prop
  | .ok (.value v) w' => f v w' ∧ Keep (fun _ => False) w w'
  | .ok (.enter g args) w' => w' = w ∧ Calls P g args w (fun e w'' => ∃ v, e = .returned v ∧ f v w'' ∧ Keep (fun _ => False) w w'')
  | _ => False
/-- What is known of the slots that an operation looks at. -/
def factsOf (ops : Array Oper) (F : Nat → Option (Value → World → Prop)) (fv : Nat → Value) (G : World → Prop) (o : Oper) (w : World) : Prop :=
  (∀ i f d, F i = some f → (ops[i]?).bind (·.dst) = some d → d ∈ o.looksAt ops → f (fv i) w) ∧ G w
theorem factsOf.keep {ops : Array Oper} {F : Nat → Option (Value → World → Prop)} {fv : Nat → Value} {G : World → Prop} {o : Oper} (hF : ∀ i f, F i = some f → ∀ v w w', Keep (fun _ => False) w w' → f v w → f v w') (hG : ∀ w w', Keep (fun _ => False) w w' → G w → G w')
    {w w' : World} (k : Keep (fun _ => False) w w') (h : factsOf ops F fv G o w) : factsOf ops F fv G o w' :=
  ⟨fun i f d hi hd hl => hF i f hi _ _ _ k (h.1 i f d hi hd hl), hG _ _ k h.2⟩
def allFacts (n : Nat) (F : Nat → Option (Value → World → Prop)) (fv : Nat → Value) (w : World) : Prop := ∀ i f, F i = some f → i < n → f (fv i) w
/-- The walk in the text's order. -/
def wpF (P : Program) (ops : Array Oper) (w0 : World) (F : Nat → Option (Value → World → Prop)) (fv : Nat → Value) (G : World → Prop) (L : Act → Prop) : Nat → List Oper → Act → Prop
  | _, [], a => L a
  | k, o :: rest, a => match F k with
    | none => if Region.wanted o (yielded ops a.tmps) then o.quiet P a (Cls w0 (factsOf ops F fv G o)) (wpF P ops w0 F fv G L (k + 1) rest) else wpF P ops w0 F fv G L (k + 1) rest (a.put o.dst undef)
    | some f => Region.wanted o (yielded ops a.tmps) = true ∧ (∀ w, Cls w0 (factsOf ops F fv G o) w → makesUpon P f w ((execOp a.eval o).run P w)) ∧ wpF P ops w0 F fv G L (k + 1) rest (a.put o.dst (fv k))
/-- What the walk shows of one operation. -/
def Ob (P : Program) (ops : Array Oper) (w0 : World) (F : Nat → Option (Value → World → Prop)) (fv : Nat → Value) (G : World → Prop) (k : Nat) (o : Oper) (a : Act) (x : Value) : Prop :=
  match F k with
  | none => YieldsIn P ops (Cls w0 (factsOf ops F fv G o)) o x a
  | some f => Region.wanted o (yielded ops a.tmps) = true ∧ (∀ w, Cls w0 (factsOf ops F fv G o) w → makesUpon P f w ((execOp a.eval o).run P w))
structure Ext (P : Program) (ops : Array Oper) (w0 : World) (F : Nat → Option (Value → World → Prop)) (fv : Nat → Value) (G : World → Prop) (L : Act → Prop) (k : Nat) (l : List Oper) (a : Act) (X : Nat → Value) (A : Nat → Act) : Prop where
  start : A k = a
  same : ∀ j f, F j = some f → X j = fv j
  ob : ∀ (j : Nat) (o : Oper), l[j]? = some o → Ob P ops w0 F fv G (k + j) o (A (k + j)) (X (k + j))
  next : ∀ (j : Nat) (o : Oper), l[j]? = some o → A (k + j + 1) = (A (k + j)).put o.dst (X (k + j))
  fin : L (A (k + l.length))
theorem wpF_ext {ops : Array Oper} {w0 : World} {F : Nat → Option (Value → World → Prop)} {fv : Nat → Value} {G : World → Prop} {L : Act → Prop} : ∀ (l : List Oper) (k : Nat) (a : Act), wpF P ops w0 F fv G L k l a → ∃ X A, Ext P ops w0 F fv G L k l a X A
  | [], k, a, h => ⟨fv, fun _ => a, rfl, fun _ _ _ => rfl, fun j o hj => by simp at hj, fun j o hj => by simp at hj, h⟩
  | o :: rest, k, a, h => by
    have key : ∃ x, Ob P ops w0 F fv G k o a x ∧ (∀ f, F k = some f → x = fv k) ∧ wpF P ops w0 F fv G L (k + 1) rest (a.put o.dst x) := by
      unfold wpF at h
      unfold Ob
      cases hF : F k with
      | none =>
        rw [hF] at h
        dsimp only at h ⊢
        by_cases hw : Region.wanted o (yielded ops a.tmps) = true
        · rw [if_pos hw] at h
          obtain ⟨v, h1, h2⟩ := h
          exact ⟨v, .inl ⟨hw, h1⟩, (fun f hf => by cases hf), h2⟩
        · rw [if_neg hw] at h
          exact ⟨undef, .inr ⟨(by simpa using hw), rfl⟩, (fun f hf => by cases hf), h⟩
      | some f =>
        rw [hF] at h
        dsimp only at h ⊢
        exact ⟨fv k, ⟨h.1, h.2.1⟩, fun _ _ => rfl, h.2.2⟩
    obtain ⟨x, hob, hx, hrest⟩ := key
    obtain ⟨X, A, e⟩ := wpF_ext rest (k + 1) _ hrest
    refine ⟨fun j => if j = k then x else X j, fun j => if j = k then a else A j, by simp, fun j f hf => ?_, fun j o' hj => ?_, fun j o' hj => ?_, ?_⟩
    · by_cases hjk : j = k
      · subst hjk; simp only [if_true]; exact hx f hf
      · simp only [if_neg hjk]; exact e.same j f hf
    · cases j with
      | zero => simp at hj; subst hj; simpa using hob
      | succ j =>
        have h1 := e.ob j o' (by simpa using hj)
        have hne : k + (j + 1) ≠ k := by omega
        simp only [if_neg hne]
        rwa [show k + (j + 1) = k + 1 + j by omega]
    · cases j with
      | zero =>
        simp at hj; subst hj
        simp [e.start]
      | succ j =>
        have h1 := e.next j o' (by simpa using hj)
        have hne : k + (j + 1) ≠ k := by omega
        have hne2 : k + (j + 1) + 1 ≠ k := by omega
        simp only [if_neg hne, if_neg hne2]
        rwa [show k + (j + 1) = k + 1 + j by omega]
    · have h1 := e.fin
      have hne : k + (o :: rest).length ≠ k := by simp
      simp only [if_neg hne]
      rwa [show k + (o :: rest).length = k + 1 + rest.length by simp; omega]
/-- The frame holds X at the slots of the operations of S, else what it held. -/
structure Agree (ops : Array Oper) (a0 : Act) (X : Nat → Value) (S : Nat → Prop) (a : Act) : Prop where
  defers : a.defers = a0.defers
  size : a.tmps.size = a0.tmps.size
  out : ∀ t, (∀ (k : Nat) (o : Oper), ops[k]? = some o → o.dst = some t → ¬ S k) → a.tmps[t]? = a0.tmps[t]?
  held : ∀ (k : Nat) (o : Oper) (t : Tmp), ops[k]? = some o → o.dst = some t → S k → t < a0.tmps.size → a.tmps[t]? = some (X k)
def Distinct (ops : Array Oper) : Prop := ∀ (j k : Nat) (oj ok : Oper) (t : Tmp), ops[j]? = some oj → ops[k]? = some ok → oj.dst = some t → ok.dst = some t → j = k
theorem Agree.refl (ops : Array Oper) (a0 : Act) (X : Nat → Value) : Agree ops a0 X (fun _ => False) a0 := ⟨rfl, rfl, fun _ _ => rfl, fun _ _ _ _ _ h => h.elim⟩
theorem Agree.congr {ops : Array Oper} {a0 a : Act} {X X' : Nat → Value} {S S' : Nat → Prop} (h : Agree ops a0 X S a) (hS : ∀ k, S k ↔ S' k) (hX : ∀ k, S k → X k = X' k) : Agree ops a0 X' S' a :=
  ⟨h.defers, h.size, fun t ht => h.out t (fun k o hk hd hs => ht k o hk hd ((hS k).1 hs)), fun k o t hk hd hs hlt => by rw [h.held k o t hk hd ((hS k).2 hs) hlt, hX k ((hS k).2 hs)]⟩
theorem Agree.put {ops : Array Oper} {a0 a : Act} {X : Nat → Value} {S : Nat → Prop} (h : Agree ops a0 X S a) (hd : Distinct ops) {i : Nat} {o : Oper} (hi : ops[i]? = some o) : Agree ops a0 X (fun k => k = i ∨ S k) (a.put o.dst (X i)) := by
  cases hdst : o.dst with
  | none =>
    refine ⟨h.defers, h.size, fun t ht => h.out t (fun k o' hk hd' hs => ht k o' hk hd' (.inr hs)), fun k o' t hk hd' hs hlt => ?_⟩
    rcases hs with rfl | hs
    · rw [hi] at hk; cases hk; rw [hdst] at hd'; cases hd'
    · exact h.held k o' t hk hd' hs hlt
  | some d =>
    refine ⟨h.defers, by simp [Act.put, h.size], fun t ht => ?_, fun k o' t hk hd' hs hlt => ?_⟩
    · have hne : d ≠ t := fun e => ht i o hi (e ▸ hdst) (.inl rfl)
      simp only [Act.put]
      rw [Array.getElem?_setIfInBounds_ne hne]
      exact h.out t (fun k o' hk hd' hs => ht k o' hk hd' (.inr hs))
    · by_cases hdt : d = t
      · subst hdt
        have : k = i := hd k i o' o d hk hi hd' hdst
        subst this
        simp only [Act.put]
        rw [Array.getElem?_setIfInBounds_self_of_lt (by rw [h.size]; exact hlt)]
      · have hki : k ≠ i := fun e => by subst e; rw [hi] at hk; cases hk; rw [hdst] at hd'; cases hd'; exact hdt rfl
        simp only [Act.put]
        rw [Array.getElem?_setIfInBounds_ne hdt]
        exact h.held k o' t hk hd' (hs.resolve_left hki) hlt
theorem Agree.at {ops : Array Oper} {a0 a b : Act} {X X' : Nat → Value} {S S' : Nat → Prop} (h : Agree ops a0 X S a) (h' : Agree ops a0 X' S' b) (t : Tmp) (ht : ∀ (k : Nat) (o : Oper), ops[k]? = some o → o.dst = some t → S k ∧ S' k ∧ X k = X' k) : a.tmps[t]? = b.tmps[t]? := by
  by_cases hx : ∃ (k : Nat) (o : Oper), ops[k]? = some o ∧ o.dst = some t
  · obtain ⟨k, o, hk, hd⟩ := hx
    obtain ⟨h1, h2, h3⟩ := ht k o hk hd
    by_cases hlt : t < a0.tmps.size
    · rw [h.held k o t hk hd h1 hlt, h'.held k o t hk hd h2 hlt, h3]
    · have h1 := h.size; have h2 := h'.size; rw [Array.getElem?_eq_none (Nat.le_of_not_lt (h1 ▸ hlt)), Array.getElem?_eq_none (Nat.le_of_not_lt (h2 ▸ hlt))]
  · rw [h.out t (fun k o hk hd _ => hx ⟨k, o, hk, hd⟩), h'.out t (fun k o hk hd _ => hx ⟨k, o, hk, hd⟩)]
theorem Agree.eq {ops : Array Oper} {a0 a b : Act} {X : Nat → Value} {S S' : Nat → Prop} (h : Agree ops a0 X S a) (h' : Agree ops a0 X S' b) (hS : ∀ k, k < ops.size → S k ∧ S' k) : a = b := by
  have ht : a.tmps = b.tmps := Array.ext_getElem? fun t => h.at h' t fun k o hk _ => by
    have := hS k (Array.getElem?_eq_some_iff.1 hk).1
    exact ⟨this.1, this.2, rfl⟩
  have hd : a.defers = b.defers := h.defers.trans h'.defers.symm
  cases a; cases b; simp_all
theorem same_of_look {ops : Array Oper} {a b : Act} {o : Oper} (hs : ∀ cs b, o.op ≠ .select cs b) (h : ∀ t ∈ o.looksAt ops, a.tmps[t]? = b.tmps[t]?) :
    execOp a.eval o = execOp b.eval o ∧ Region.wanted o (yielded ops a.tmps) = Region.wanted o (yielded ops b.tmps) := by
  refine ⟨execOp_congr o hs fun x hx => ?_, ?_⟩
  · cases x with
    | tmp t =>
      have := h t (List.mem_append_left _ (List.mem_filterMap.2 ⟨.tmp t, by simpa using hx, rfl⟩))
      simp only [Act.eval, Array.getD_eq_getD_getElem?, this]
    | _ => rfl
  · unfold Region.wanted
    cases hg : o.guard with
    | none => rfl
    | some gw =>
      obtain ⟨g, want⟩ := gw
      have hy : yielded ops a.tmps g = yielded ops b.tmps g := by
        unfold yielded
        cases ht : (ops[g]?).bind (·.dst) with
        | none => rfl
        | some t =>
          have := h t (by simp [Oper.looksAt, hg, ht])
          simp only [Option.bind_some, this]
      simp only [hy]
/-- What the kernel is asked of a region: each edge goes back; each slot is written once; who looks at a slot waits for its writer. -/
def okF (ops : Array Oper) : Bool :=
  Region.noSelect ops && (List.range ops.size).all fun i => match ops[i]? with
    | none => true
    | some o => o.after.all (fun e => !Region.binds .any e || decide (e.on < i)) && (List.range ops.size).all fun j => match (ops[j]?).bind (·.dst) with
      | none => true
      | some d => (decide (i = j) || o.dst != some d) && (!(o.looksAt ops).contains d || (decide (j < i) && o.after.any fun e => Region.binds .any e && e.on == j))
theorem okF_spec {ops : Array Oper} (h : okF ops = true) : Region.noSelect ops = true ∧ (∀ (i : Nat) (o : Oper), ops[i]? = some o → ∀ e ∈ o.after, Region.binds .any e = true → e.on < i) ∧ Distinct ops ∧
    (∀ (i : Nat) (o : Oper) (j : Nat) (oj : Oper) (d : Tmp), ops[i]? = some o → ops[j]? = some oj → oj.dst = some d → d ∈ o.looksAt ops → j < i ∧ ∃ e ∈ o.after, Region.binds .any e = true ∧ e.on = j) := by
  simp only [okF, Bool.and_eq_true] at h
  obtain ⟨hs, hall⟩ := h
  have at' : ∀ (i : Nat) (o : Oper), ops[i]? = some o → (o.after.all (fun e => !Region.binds .any e || decide (e.on < i)) = true ∧ (List.range ops.size).all (fun j => match (ops[j]?).bind (·.dst) with
      | none => true
      | some d => (decide (i = j) || o.dst != some d) && (!(o.looksAt ops).contains d || (decide (j < i) && o.after.any fun e => Region.binds .any e && e.on == j))) = true) := by
    intro i o hi
    have h1 := List.all_eq_true.1 hall i (List.mem_range.2 (Array.getElem?_eq_some_iff.1 hi).1)
    rw [hi] at h1
    simpa only [Bool.and_eq_true] using h1
  have pair : ∀ (i : Nat) (o : Oper) (j : Nat) (oj : Oper) (d : Tmp), ops[i]? = some o → ops[j]? = some oj → oj.dst = some d → (decide (i = j) || o.dst != some d) = true ∧ (!(o.looksAt ops).contains d || (decide (j < i) && o.after.any fun e => Region.binds .any e && e.on == j)) = true := by
    intro i o j oj d hi hj hd
    have h1 := List.all_eq_true.1 (at' i o hi).2 j (List.mem_range.2 (Array.getElem?_eq_some_iff.1 hj).1)
    rw [hj] at h1
    simp only [Option.bind_some, hd, Bool.and_eq_true] at h1
    exact h1
  refine ⟨hs, fun i o hi e he hb => ?_, fun j k oj ok t hj hk hjd hkd => ?_, fun i o j oj d hi hj hd hl => ?_⟩
  · have h1 := (Array.all_eq_true_iff_forall_mem.1 (at' i o hi).1) e he
    simp only [hb, Bool.not_true, Bool.false_or, decide_eq_true_eq] at h1
    exact h1
  · have h1 := (pair j oj k ok t hj hk hkd).1
    simp [hjd] at h1
    exact h1
  · have h1 := (pair i o j oj d hi hj hd).2
    have hc : (o.looksAt ops).contains d = true := by simpa using hl
    rw [hc] at h1
    simp only [Bool.not_true, Bool.false_or, Bool.and_eq_true, decide_eq_true_eq] at h1
    obtain ⟨h2, h3⟩ := h1
    obtain ⟨j', hj', hb⟩ := Array.any_eq_true.1 h3
    have he := Array.getElem_mem hj'
    generalize o.after[j'] = e at *
    simp only [Bool.and_eq_true, beq_iff_eq] at hb
    exact ⟨h2, e, he, hb⟩
end
end Go.Proofs.Ythcagpgdekhaeaa
