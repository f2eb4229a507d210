/- The region's law with a tail. No condition. -/
import Derived.Test.YthcagpgdekhaeaaFact4
namespace Go.Proofs.Ythcagpgdekhaeaa
open Go.RowKit
section
variable {P : Program} {ops : Array Oper} {w0 : World} {F : Nat → Option (Value → World → Prop)} {Q : Exit → Act → World → Prop} {a0 : Act} {m n : Nat}
def unseen (seen : Array Bool) (n : Nat) : Nat := (List.range n).countP fun k => !seen.getD k false
theorem unseen_set {seen : Array Bool} {i : Nat} (hi : i < seen.size) (hs : seen.getD i false = false) : ∀ n, (i < n → unseen (seen.setIfInBounds i true) n + 1 = unseen seen n) ∧ (n ≤ i → unseen (seen.setIfInBounds i true) n = unseen seen n)
  | 0 => ⟨fun h => by omega, fun _ => rfl⟩
  | n + 1 => by
    obtain ⟨h1, h2⟩ := unseen_set hi hs n
    have hstep : ∀ s : Array Bool, unseen s (n + 1) = unseen s n + (if s.getD n false = false then 1 else 0) := fun s => by
      unfold unseen
      rw [List.range_succ, List.countP_append, List.countP_singleton]
      by_cases h : s.getD n false = false
      · simp [h]
      · simp at h; simp [h]
    rw [hstep, hstep]
    by_cases hin : i = n
    · subst hin
      have e : (seen.setIfInBounds i true).getD i false = true := by simp [Array.getD_eq_getD_getElem?, hi]
      rw [e, if_neg (by simp), if_pos hs]
      refine ⟨fun _ => ?_, fun h => by omega⟩
      have := h2 (Nat.le_refl _)
      omega
    · rw [getD_set_ne false hin]
      refine ⟨fun h => ?_, fun h => ?_⟩
      · have := h1 (by omega)
        omega
      · have := h2 (by omega)
        omega
theorem unseen_zero {seen : Array Bool} {n : Nat} (h : unseen seen n = 0) : ∀ i, i < n → Seen seen i := fun i hi => by
  unfold unseen at h
  rw [List.countP_eq_zero] at h
  have := h i (List.mem_range.2 hi)
  simpa [Seen] using this
theorem wpAny_head {L : Act → World → Prop} (ok : OkT ops m n) (hFm : ∀ j f, F j = some f → m ≤ j) (hF : ∀ i f, F i = some f → ∀ v w w', Keep (fun _ => False) w w' → f v w → f v w') (hW : ∀ fv G, (∀ w w', Keep (fun _ => False) w w' → G w → G w') → wpF P ops w0 F fv G (FinT w0 n F fv L) m (headOps ops m n) a0) (hL : ∀ a w, L a w → wpList P ops Q (ops.toList.drop n) a w) :
    ∀ (u : Nat) (seen : Array Bool) (a : Act) (w : World), RegT P ops w0 F L a0 m n seen a w → unseen seen n = u → wpAny P .any ops Q (u + (ops.size - n)) seen a w
  | 0, seen, a, w, hI, hu => by rw [Nat.zero_add]; exact regT_tail ok hFm hL seen a w hI (unseen_zero hu)
  | u + 1, seen, a, w, hI, hu => by
    -- something below n is not seen
    obtain ⟨j, hjn, hj⟩ : ∃ j, j < n ∧ ¬ Seen seen j := by
      by_cases h : ∃ j, j < n ∧ ¬ Seen seen j
      · exact h
      · exfalso
        have : unseen seen n = 0 := by
          unfold unseen
          rw [List.countP_eq_zero]
          intro k hk
          have hk' := List.mem_range.1 hk
          have : Seen seen k := Classical.byContradiction fun hc => h ⟨k, hk', hc⟩
          simpa [Seen] using this
        omega
    have hlt := ok.lt
    have hun : seen.getD j true = false := by
      unfold Seen at hj
      rw [Array.getD_eq_getD_getElem?, Array.getElem?_eq_getElem (by rw [hI.head.size]; omega)] at hj ⊢
      simpa using hj
    have hjm : m ≤ j := Nat.le_of_not_lt fun h => hj (hI.low j h)
    have hbelow : ∀ t ∈ Region.ready .any ops seen, t < n := fun t ht => Nat.lt_of_not_le fun h => waits_from ok.sink ok.chain ok.lt hI.head (n - j) j rfl hjm hjn hun t h ht
    -- something is ready
    have hsome : ∀ d j, j < d → j < n → ¬ Seen seen j → Region.ready .any ops seen ≠ [] := by
      intro d
      induction d with
      | zero => intro j h; omega
      | succ d ih =>
        intro j hjd hjn hj
        obtain ⟨o, ho⟩ : ∃ o, ops[j]? = some o := ⟨_, Array.getElem?_eq_getElem (by omega)⟩
        by_cases hdep : ∃ e ∈ o.after, Region.binds .any e = true ∧ ¬ Seen seen e.on
        · obtain ⟨e, he, hb, hs⟩ := hdep
          have := ok.back j o ho hjn e he hb
          exact ih e.on (by omega) (by omega) hs
        · intro hnil
          have : j ∈ Region.ready .any ops seen := by
            rw [mem_ready]
            refine ⟨?_, o, ho, fun e he hb => Classical.byContradiction fun hc => hdep ⟨e, he, hb, hc⟩⟩
            unfold Seen at hj
            rw [Array.getD_eq_getD_getElem?, Array.getElem?_eq_getElem (by rw [hI.head.size]; omega)] at hj ⊢
            simpa using hj
          rw [hnil] at this
          cases this
    rw [show u + 1 + (ops.size - n) = (u + (ops.size - n)) + 1 by omega]
    refine ⟨fun h => absurd h (hsome (j + 1) j (by omega) hjn hj), fun i hi => ?_⟩
    have hin := hbelow i hi
    have h0 := (mem_ready.1 hi).1
    have hlt' : i < seen.size := by rw [hI.head.size]; omega
    have h1 : seen.getD i false = false := getD_both h0
    exact wpOp_mono (fun a' w' h => wpAny_head ok hFm hF hW hL u _ a' w' h (by have := (unseen_set hlt' h1 n).1 hin; omega)) (regT_step ok hFm hF hW seen a w i hI hi hin)
/-- Moves first; then one walk in the text's order for the head, some of whose operations make memory; then the tail. -/
theorem wp_region_tail {id : Nat} {w : World} {l : List Oper} (m n : Nat) (F : Nat → Option (Value → World → Prop)) (hm : P.follows .mixedOrders = true) (hok : okT l.toArray m n = true) (hFm : ∀ j f, F j = some f → m ≤ j)
    (hF : ∀ i f, F i = some f → ∀ v w w', Keep (fun _ => False) w w' → f v w → f v w') (hQ : ∀ c (a : Act) d v w, Q (.panic c) (a.put d v) w → Q (.panic c) a w)
    (h : wpMoves P l.toArray (fun a => ∀ fv G, (∀ w w', Keep (fun _ => False) w w' → G w → G w') → WpF P l.toArray w F fv G (fun a' => ∀ w', Cls w (allFacts n F fv) w' → wpList P l.toArray Q (l.drop n) a' w') m ((l.take n).drop m) a) (l.take m) a0) : (Code.region id l.toArray true).wp P Q a0 w := by
  have ok := okT_spec hok
  have hsz : l.toArray.size = l.length := by simp
  have hlt := ok.lt
  have hle := ok.le
  refine wp_region_any hm ?_
  have htm : (l.take m).length = m := by rw [hsz] at hlt; simp; omega
  have inv0 : HeadInv .any l.toArray n (Array.replicate l.toArray.size false) :=
    ⟨by simp, fun j oj _ hl => (by rw [getD_replicate_false] at hl; cases hl), fun t _ ht => getD_in (by simpa using ht) (getD_replicate_false _ _)⟩
  have hfin := wpMoves.any (P := P) (Q := Q) (n := n) (g := (n - m) + (l.toArray.size - n)) (w := { w with drawn := w.drawn + 1 }) (md := .any) ok.sel hQ (B := onlyB m n) (L := fun a => ∀ fv G, (∀ w w', Keep (fun _ => False) w w' → G w → G w') → WpF P l.toArray w F fv G (fun a' => ∀ w', Cls w (allFacts n F fv) w' → wpList P l.toArray Q (l.drop n) a' w') m ((l.take n).drop m) a) (fun seen a inv hB hL => by
      have hon : ∀ k, k < n → (seen.getD k false = true ↔ k < m) := fun k hk => by
        have := List.all_eq_true.1 hB k (List.mem_range.2 hk)
        simp only [beq_iff_eq] at this
        rw [this]
        simp
      have hun : unseen seen n = n - m := by
        have e : ∀ q, q ≤ n → unseen seen q = q - m := by
          intro q
          induction q with
          | zero => intro _; simp [unseen]
          | succ q ih =>
            intro hq
            have hst : unseen seen (q + 1) = unseen seen q + (if seen.getD q false = true then 0 else 1) := by
              unfold unseen
              rw [List.range_succ, List.countP_append, List.countP_singleton]
              by_cases h : seen.getD q false = true
              · simp [h]
              · simp at h; simp [h]
            rw [hst, ih (by omega)]
            by_cases hqm : q < m
            · rw [if_pos ((hon q (by omega)).2 hqm)]; omega
            · rw [if_neg (fun hc => hqm ((hon q (by omega)).1 hc))]; omega
        exact e n (Nat.le_refl _)
      have hW : ∀ fv G, (∀ w w', Keep (fun _ => False) w w' → G w → G w') → wpF P l.toArray w F fv G (FinT w n F fv (fun a' w' => wpList P l.toArray Q (l.drop n) a' w')) m (headOps l.toArray m n) a := fun fv G hG => by
        have := (hL fv G hG).out
        exact this
      refine wpAny_head (w0 := w) (F := F) (a0 := a) ok hFm hF hW (fun a' w' h' => h') (n - m) seen a _ ⟨inv, fun k hk => (hon k (by omega)).2 hk, Keep.drewN _ _ 1, ?_⟩ hun
      obtain ⟨X, A, e⟩ := wpF_ext _ _ _ (hW (fun _ => undef) (fun _ => True) (fun _ _ _ h => h))
      refine ⟨_, _, X, A, fun _ _ _ h => h, trivial, e, (Agree.refl _ _ X).congr (fun k => ⟨fun h => h.elim, fun h => ?_⟩) (fun _ h => h.elim), fun i f hmi hs => ?_⟩
      · have := headInv_below inv h.2
        have := (hon k this).1 h.2
        omega
      · have := headInv_below inv hs
        have := (hon i this).1 hs
        omega) (l.take m) 0 (Array.replicate l.toArray.size false) a0 (fun j hj => by rw [htm] at hj; simp [hj]) (by rw [htm]; omega) inv0 (by rw [htm]; exact ok.moves) h
  rw [htm, show m + ((n - m) + (l.toArray.size - n)) = l.toArray.size by omega] at hfin
  exact hfin
end
end Go.Proofs.Ythcagpgdekhaeaa
