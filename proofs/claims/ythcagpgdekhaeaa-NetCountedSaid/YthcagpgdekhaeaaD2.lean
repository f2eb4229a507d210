/- Two nets of the call's own, side by side. -/
import Derived.Test.YthcagpgdekhaeaaD1
namespace Go.Proofs.Ythcagpgdekhaeaa
open Go.RowKit
/-- The call that began in w made the net in nb and the reference's in rb; what lies in the blocks of P is neither's. -/
def Duo (w W : World) (nb rb : Nat) (most : Int) (st st' : St) (P : Nat → Prop) : Prop :=
  ∃ vr, OwnS w W nb most st (fun i => P i ∨ i = rb ∨ vr.ownBlock = some i) ∧ RefS W rb w.heap.size most vr st' ∧ w.heap.size ≤ rb ∧ ∀ i, P i → i ≠ rb ∧ vr.ownBlock ≠ some i
section
variable {w W W' : World} {nb rb : Nat} {most : Int} {st st' st1 : St} {P : Nat → Prop}
theorem Duo.keep (h : Duo w W nb rb most st st' P) : Keep (fun _ => False) w W := by
  obtain ⟨vr, h1, _⟩ := h
  exact Own.keep h1
theorem Duo.lt (h : Duo w W nb rb most st st' P) (i : Nat) (hi : P i) : i < W.heap.size := by
  obtain ⟨vr, ⟨v, _, _, _, h4⟩, _⟩ := h
  exact (h4 i (.inl hi)).1
theorem Duo.keep0 (h : Duo w W nb rb most st st' P) (k : Keep (fun _ => False) W W') : Duo w W' nb rb most st st' P := by
  obtain ⟨vr, h1, h2, h3, h4⟩ := h
  exact ⟨vr, Own.keep0 h1 k, RefAt.keep0 h2 k, h3, h4⟩
theorem Duo.less {P' : Nat → Prop} (h : Duo w W nb rb most st st' P) (hp : ∀ i, P' i → P i) : Duo w W nb rb most st st' P' := by
  obtain ⟨vr, h1, h2, h3, h4⟩ := h
  exact ⟨vr, Own.less h1 (fun i hi => hi.imp (hp i) id), h2, h3, fun i hi => h4 i (hp i hi)⟩
theorem Duo.fresh (h : Duo w W nb rb most st st' P) (k : Keep (fun _ => False) W W') : Duo w W' nb rb most st st' (fun i => P i ∨ (W.heap.size ≤ i ∧ i < W'.heap.size)) := by
  obtain ⟨vr, h1, h2, h3, h4⟩ := h
  refine ⟨vr, Own.less (Own.fresh h1 k) (fun i hi => ?_), RefAt.keep0 h2 k, h3, fun i hi => ?_⟩
  · rcases hi with (hi | hi) | hi
    · exact .inl (.inl hi)
    · exact .inr hi
    · exact .inl (.inr hi)
  · rcases hi with hi | hi
    · exact h4 i hi
    · have hr : rb < W.heap.size := lt_of_block h2.block
      refine ⟨by omega, fun e => ?_⟩
      have := (h2.row.lt i e).2
      omega
theorem Duo.keepP {S : Nat → Prop} (h : Duo w W nb rb most st st' P) (k : Keep S W W') (hS : ∀ i, S i → P i ∧ w.heap.size ≤ i) : Duo w W' nb rb most st st' P := by
  obtain ⟨vr, h1, h2, h3, h4⟩ := h
  exact ⟨vr, Own.keepP h1 k (fun i hi => ⟨.inl (hS i hi).1, (hS i hi).2⟩), RefAt.keep h2 k (fun hc => (h4 rb (hS rb hc).1).1 rfl) (fun g hg hc => (h4 g (hS g hc).1).2 hg), h3, h4⟩
theorem Duo.net {f : FuncId} {args : Array Value} {v : Value} (h : Duo w W nb rb most st st' P) (H : ∀ P', OwnS w W nb most st P' → Calls Try.prog f args W fun e w' => e = .returned v ∧ OwnS w w' nb most st1 P' ∧ Keep (fun i => ¬ P' i) W w') :
    Calls Try.prog f args W fun e w' => e = .returned v ∧ Duo w w' nb rb most st1 st' P ∧ Keep (fun i => ¬ P i) W w' := by
  obtain ⟨vr, h1, h2, h3, h4⟩ := h
  refine (H _ h1).mono fun e w' ⟨he, ho, k⟩ => ⟨he, ⟨vr, ho, RefAt.keep h2 k (fun hc => hc (.inr (.inl rfl))) (fun g hg hc => hc (.inr (.inr hg))), h3, h4⟩, k.mono (fun i hi hp => hi (.inl hp))⟩
theorem Duo.ref {f : FuncId} {args : Array Value} {v : Value} (h : Duo w W nb rb most st st' P) (H : ∀ vr, RefS W rb w.heap.size most vr st' → w.heap.size ≤ W.heap.size → Calls Try.prog f args W fun e w' => e = .returned v ∧ RefPostS rb w.heap.size most vr st1 W w') :
    Calls Try.prog f args W fun e w' => e = .returned v ∧ Duo w w' nb rb most st st1 P ∧ Keep (fun i => ¬ P i) W w' := by
  have hlt := h.lt
  have hk := h.keep
  obtain ⟨vr, h1, h2, h3, h4⟩ := h
  refine (H vr h2 hk.size).mono fun e w' ⟨he, v', ha, hb, k⟩ => ⟨he, ⟨v', Own.less (Own.grow h1 k (fun i hi => ⟨.inr (.inl hi), by subst hi; exact h3⟩)) (fun i hi => ?_), ha, h3, fun i hi => ⟨(h4 i hi).1, fun e => ?_⟩⟩, k.mono (fun i hi hp => (h4 i hp).1 hi)⟩
  · rcases hi with hi | hi | hi
    · exact .inl (.inl hi)
    · exact .inl (.inr (.inl hi))
    · rcases hb i hi with h | h
      · exact .inl (.inr (.inr h))
      · exact .inr ⟨h, (ha.row.lt i hi).2⟩
  · rcases hb i e with h | h
    · exact (h4 i hi).2 h
    · have := hlt i hi
      omega
end
end Go.Proofs.Ythcagpgdekhaeaa
