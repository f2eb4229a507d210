/- The steps of the walk in the text's order. No condition. -/
import Derived.Test.YthcagpgdekhaeaaFact2
namespace Go.Proofs.Ythcagpgdekhaeaa
open Go.RowKit
attribute [go_sem] Cls
section
variable {P : Program} {ops : Array Oper} {w0 : World} {F : Nat → Option (Value → World → Prop)} {fv : Nat → Value} {G : World → Prop} {L : Act → Prop} {k : Nat} {o : Oper} {rest : List Oper} {a : Act}
/-- The walk, closed to the elaborator. -/
structure WpF (P : Program) (ops : Array Oper) (w0 : World) (F : Nat → Option (Value → World → Prop)) (fv : Nat → Value) (G : World → Prop) (L : Act → Prop) (k : Nat) (l : List Oper) (a : Act) : Prop where
  out : wpF P ops w0 F fv G L k l a
theorem wpF_nil (h : L a) : WpF P ops w0 F fv G L k [] a := ⟨h⟩
theorem wpF_skip (hF : F k = none) (hw : Region.wanted o (yielded ops a.tmps) = false) (h : WpF P ops w0 F fv G L (k + 1) rest (a.put o.dst undef)) : WpF P ops w0 F fv G L k (o :: rest) a := by
  constructor
  unfold wpF
  rw [hF]
  dsimp only
  rw [if_neg (by rw [hw]; exact Bool.false_ne_true)]
  exact h.out
theorem wpF_want (hP : ∀ i f, F i = some f → ∀ v w w', Keep (fun _ => False) w w' → f v w → f v w') (hG : ∀ w w', Keep (fun _ => False) w w' → G w → G w') (hF : F k = none) (hw : Region.wanted o (yielded ops a.tmps) = true)
    (h : ∀ fct : World → Prop, Hid (∀ w w', Keep (fun _ => False) w w' → fct w → fct w') → Hid (∀ w, fct w → factsOf ops F fv G o w) → ∀ K : Act → Prop, (∀ a, WpF P ops w0 F fv G L (k + 1) rest a → K a) → o.quiet P a (Cls w0 fct) K) : WpF P ops w0 F fv G L k (o :: rest) a := by
  constructor
  unfold wpF
  rw [hF]
  dsimp only
  rw [if_pos hw]
  exact h _ (fun w w' k h => factsOf.keep hP hG k h) (fun _ h => h) _ (fun _ h => h.out)
theorem wpF_make {f : Value → World → Prop} (hP : ∀ i f, F i = some f → ∀ v w w', Keep (fun _ => False) w w' → f v w → f v w') (hG : ∀ w w', Keep (fun _ => False) w w' → G w → G w') (hF : F k = some f) (hw : Region.wanted o (yielded ops a.tmps) = true)
    (hm : ∀ fct : World → Prop, Hid (∀ w w', Keep (fun _ => False) w w' → fct w → fct w') → Hid (∀ w, fct w → factsOf ops F fv G o w) → ∀ g : LaterF w0 fct, makesUpon P f g.world ((execOp a.eval o).run P g.world))
    (h : WpF P ops w0 F fv G L (k + 1) rest (a.put o.dst (fv k))) : WpF P ops w0 F fv G L k (o :: rest) a := by
  constructor
  unfold wpF
  rw [hF]
  dsimp only
  exact ⟨hw, fun w ⟨g, hg⟩ => hg ▸ hm _ (fun w w' k h => factsOf.keep hP hG k h) (fun _ h => h) g, h.out⟩
theorem wp_region_walk {Q : Exit → Act → World → Prop} {id : Nat} {w : World} {l : List Oper} (F : Nat → Option (Value → World → Prop)) (hm : P.follows .mixedOrders = true) (hok : okF l.toArray = true) (hF : ∀ i f, F i = some f → ∀ v w w', Keep (fun _ => False) w w' → f v w → f v w')
    (h : ∀ fv G, (∀ w w', Keep (fun _ => False) w w' → G w → G w') → WpF P l.toArray w F fv G (fun a => ∀ w', Cls w (allFacts l.length F fv) w' → Q .normal a w') 0 l a) : (Code.region id l.toArray true).wp P Q a w :=
  wp_region_facts F hm hok hF (fun fv G hG => (h fv G hG).out)
end
/-- Old cells and old marks read as before, in each later world. -/
theorem LaterF.rules (w : World) : (∀ (fct : World → Prop) (g : LaterF w fct) b o, b < w.heap.size → g.world.cell? ⟨b, o, none⟩ = w.cell? ⟨b, o, none⟩) ∧ (∀ (fct : World → Prop) (g : LaterF w fct) b o, b < w.heap.size → g.world.frozen? ⟨b, o, none⟩ = w.frozen? ⟨b, o, none⟩) :=
  ⟨fun _ g => g.keep.rules.1, fun _ g => g.keep.rules.2⟩
theorem LaterF.call {P : Program} {f : FuncId} {args : Array Value} {w : World} {fct : World → Prop} (hp : Hid (∀ w w', Keep (fun _ => False) w w' → fct w → fct w')) {g : LaterF w fct} {v : Value} (h : Calls P f args g.world fun e w' => e = .returned v ∧ Keep (fun _ => False) g.world w') :
    Calls P f args g.world fun e w'' => e = .returned v ∧ ∃ g' : LaterF w fct, w'' = g'.world :=
  h.mono fun _ w' ⟨he, hk⟩ => ⟨he, ⟨w', g.keep.trans hk, hp.out _ _ hk g.fact⟩, rfl⟩
/-- Of the operations that make memory, by number. -/
def tab (l : List (Nat × (Value → World → Prop))) (i : Nat) : Option (Value → World → Prop) := (l.find? (fun p => p.1 == i)).map (·.2)
def Lasts (f : Value → World → Prop) : Prop := ∀ v w w', Keep (fun _ => False) w w' → f v w → f v w'
theorem tab_keep {l : List (Nat × (Value → World → Prop))} (h : ∀ p ∈ l, Lasts p.2) : ∀ i f, tab l i = some f → ∀ v w w', Keep (fun _ => False) w w' → f v w → f v w' := by
  intro i f hf
  unfold tab at hf
  rw [Option.map_eq_some_iff] at hf
  obtain ⟨p, hp, rfl⟩ := hf
  exact h p (List.mem_of_find?_eq_some hp)
theorem lasts_nil : ∀ p ∈ ([] : List (Nat × (Value → World → Prop))), Lasts p.2 := fun _ h => by cases h
theorem lasts_cons {n : Nat} {f : Value → World → Prop} {l : List (Nat × (Value → World → Prop))} (hf : Lasts f) (h : ∀ p ∈ l, Lasts p.2) : ∀ p ∈ (n, f) :: l, Lasts p.2 := fun p hp => by
  rcases List.mem_cons.1 hp with rfl | hp
  · exact hf
  · exact h p hp
theorem factsOf.slot {ops : Array Oper} {F : Nat → Option (Value → World → Prop)} {fv : Nat → Value} {G : World → Prop} {o : Oper} {w : World} (h : factsOf ops F fv G o w) (i : Nat) {f : Value → World → Prop} (d : Tmp) (hi : F i = some f) (hd : (ops[i]?).bind (·.dst) = some d) (hl : d ∈ o.looksAt ops) : f (fv i) w := h.1 i f d hi hd hl
theorem makes_value {P : Program} {f : Value → World → Prop} {w w' : World} {v : Value} {r : Result Next} (hr : r = .ok (.value v) w') (hf : f v w') (hk : Keep (fun _ => False) w w') : makesUpon P f w r := by subst hr; exact ⟨hf, hk⟩
end Go.Proofs.Ythcagpgdekhaeaa
