/- The general words of this claim: what a call keeps of memory ('Keep'), and a slice of integers that can be read ('Ints'). No condition. -/
import Derived.Test.YtfoklfifgmacfaaRows
import Derived.WalkKit
import Derived.WalkSpells
import Derived.WalkLawsBesides
import Derived.BigQuiet
import Derived.Lib.Hide
import Derived.Deep.DeepCutAuto
import Derived.Deep.CutBlock
import Derived.Deep.RegionWith
import Derived.Deep.DeepFit
import Derived.Deep.QuietTactic
namespace Go.Proofs.Ytfoklfifgmacfaa
open Go.RowKit
/-- w' is w but for new blocks and for blocks in S. -/
structure Keep (S : Nat → Prop) (w w' : World) : Prop where
  os : w'.os = w.os
  tape : w'.tape = w.tape
  output : w'.output = w.output
  size : w.heap.size ≤ w'.heap.size
  block : ∀ k, k < w.heap.size → ¬ S k → w'.heap[k]? = w.heap[k]?
theorem Keep.refl (S : Nat → Prop) (w : World) : Keep S w w := ⟨rfl, rfl, rfl, Nat.le_refl _, fun _ _ _ => rfl⟩
theorem Keep.trans {S : Nat → Prop} {a b c : World} (h : Keep S a b) (k : Keep S b c) : Keep S a c :=
  ⟨k.os.trans h.os, k.tape.trans h.tape, k.output.trans h.output, Nat.le_trans h.size k.size, fun i hi hs => (k.block i (Nat.lt_of_lt_of_le hi h.size) hs).trans (h.block i hi hs)⟩
/-- Behind h, a step may also write blocks that are new since a. -/
theorem Keep.step {S S' : Nat → Prop} {a b c : World} (h : Keep S a b) (k : Keep S' b c) (hs : ∀ i, S' i → S i ∨ a.heap.size ≤ i) : Keep S a c :=
  ⟨k.os.trans h.os, k.tape.trans h.tape, k.output.trans h.output, Nat.le_trans h.size k.size, fun i hi hsi => (k.block i (Nat.lt_of_lt_of_le hi h.size) (fun hc => (hs i hc).elim hsi (fun hh => by omega))).trans (h.block i hi hsi)⟩
theorem Keep.mono {S S' : Nat → Prop} {a b : World} (h : Keep S a b) (hs : ∀ i, S i → S' i) : Keep S' a b :=
  ⟨h.os, h.tape, h.output, h.size, fun i hi hn => h.block i hi (fun hc => hn (hs i hc))⟩
theorem Keep.drewN (S : Nat → Prop) (w : World) (n : Nat) : Keep S w (w.drewN n) := ⟨rfl, rfl, rfl, Nat.le_refl _, fun _ _ _ => rfl⟩
theorem Keep.alloc (S : Nat → Prop) (w : World) (o : Obj) : Keep S w (w.alloc o) := ⟨rfl, rfl, rfl, by simp, fun k hk _ => Below.heap_alloc _ _ _ hk⟩
theorem Keep.setCell {S : Nat → Prop} (w : World) {p : Addr} (u : Value) (hp : S p.block) : Keep S w (w.setCell p u) :=
  ⟨rfl, rfl, rfl, by simp [World.setCell], fun k _ hs => Below.heap_setCell _ _ _ _ (fun e => hs (e ▸ hp))⟩
theorem Keep.grown {w w' : World} {row : Option Nat} (hg : w.grownBy w' row) : Keep (fun k => row = some k) w w' :=
  ⟨hg.os, hg.tape, hg.output, hg.size, fun k hk hn => hg.block k hk (fun e => hn e.symm)⟩
theorem Keep.below {S : Nat → Prop} {w w' : World} {B : Nat} (h : Keep S w w') (hB : B ≤ w.heap.size) (hs : ∀ k, S k → B ≤ k) : Below B w w' :=
  ⟨h.os, h.tape, h.output, h.size, fun k hk => h.block k (by omega) (fun hc => by have := hs k hc; omega)⟩
theorem Keep.of_below {w w' : World} {B : Nat} (h : Below B w w') : Keep (fun k => B ≤ k) w w' :=
  ⟨h.os, h.tape, h.output, h.size, fun k _ hn => h.block k (by omega)⟩
theorem Keep.heap {S : Nat → Prop} {w w' : World} (h : Keep S w w') {k : Nat} {o : Obj} (hk : w.heap[k]? = some o) (hs : ¬ S k) : w'.heap[k]? = some o :=
  (h.block k (lt_of_block hk) hs).trans hk
theorem heap_setCell_at {w : World} {b i : Nat} {v : Value} {cs : Array Value} {t : TypeId} (h : w.heap[b]? = some (.cells cs t (0, 0))) :
    (w.setCell ⟨b, i, none⟩ v).heap[b]? = some (.cells (cs.setIfInBounds i v) t (0, 0)) := heap_setCell_same w b i cs t v h
theorem heap_drewN (w : World) (n : Nat) : (w.drewN n).heap = w.heap := rfl
theorem cell_of {w : World} {b : Nat} {cs : Array Value} {t : TypeId} {fr : Nat × Nat} (h : w.heap[b]? = some (.cells cs t fr)) (j : Nat) : w.cell? ⟨b, j, none⟩ = cs[j]? := cell_of_row w b j cs t fr h
theorem free_of {w : World} {b : Nat} {cs : Array Value} {t : TypeId} (h : w.heap[b]? = some (.cells cs t (0, 0))) (j : Nat) : w.frozen? ⟨b, j, none⟩ = false := frozen_of_row w b j cs t h
theorem new1 (w : World) (n : Nat) (hn : n = w.heap.size) (v : Value) (t : TypeId) : ∀ j u, [v][j]? = some u → (w.alloc (.cells #[v] t)).cell? ((⟨n, 0, none⟩ : Addr).add j) = some u := by
  subst hn
  intro j u hj
  match j, hj with
  | 0, hj => simp at hj; subst hj; simp [Addr.add, cell_of (heap_alloc_new w (.cells #[v] t))]
theorem one1 {v : Value} (h : v.oneCell' = true) : ∀ u ∈ [v], u.oneCell' = true := by intro u hu; simp at hu; subst hu; exact h
/-- What was kept up to an append to a row of the call's own. -/
theorem Keep.own {S : Nat → Prop} {w0 w w' : World} {v : Value} {n : Nat} {xs : List Value} {e : TypeId} {size : Nat} (h : Keep S w0 w) (hown : w.ownsRow w0.heap.size e size v n xs) (hg : w.grownBy w' v.ownBlock) : Keep S w0 w' :=
  h.step (Keep.grown hg) (fun i hi => .inr (hown.lt i hi).1)
/-- The shape of an owned slice that is not empty. -/
theorem own_shape {w : World} {base : Nat} {e : TypeId} {size : Nat} {v : Value} {n : Nat} {xs : List Value} (h : w.ownsRow base e size v n xs) (hn : 0 < n) :
    ∃ g cap, v = .slice (some ⟨g, 0, none⟩) n cap ∧ base ≤ g ∧ n ≤ cap ∧ cap ≤ maxLen := by
  rcases h.2 with ⟨_, h0⟩ | ⟨g, cap, cur, rfl, hb, _, hc, hm, _⟩
  · omega
  · exact ⟨g, cap, rfl, hb, hc, hm⟩
theorem own_len {w : World} {base : Nat} {e : TypeId} {size : Nat} {v : Value} {n : Nat} {xs : List Value} (h : w.ownsRow base e size v n xs) :
    ∃ a cap, v = .slice a n cap ∧ cap ≤ maxLen ∧ n ≤ cap := by
  rcases h.2 with ⟨rfl, rfl⟩ | ⟨g, cap, cur, rfl, hb, _, hc, hm, _⟩
  · exact ⟨none, 0, rfl, by simp [maxLen], Nat.le_refl _⟩
  · exact ⟨_, cap, rfl, hm, hc⟩
theorem add_none (b o i : Nat) : (⟨b, o, none⟩ : Addr).add i = ⟨b, o + i, none⟩ := by unfold Addr.add; split <;> simp_all
theorem ownsRow_keep {S : Nat → Prop} {w w' : World} {base : Nat} {e : TypeId} {size : Nat} {v : Value} {n : Nat} {xs : List Value} (h : w.ownsRow base e size v n xs) (k : Keep S w w') (hs : ∀ i, base ≤ i → i < w.heap.size → ¬ S i) : w'.ownsRow base e size v n xs := by
  refine ⟨h.1, ?_⟩
  rcases h.2 with hn | ⟨g, cap, cur, rfl, hb, hg, rest⟩
  · exact .inl hn
  · exact .inr ⟨g, cap, cur, rfl, hb, k.heap hg (hs g hb (lt_of_block hg)), rest⟩
/-- The integers of an owned slice, cell by cell. -/
theorem own_int {w : World} {base : Nat} {e : TypeId} {a : Option Addr} {n cap m : Nat} {l : List Int} {K : IntKind} (h : w.ownsRow base e 1 (.slice a n cap) m (l.map (Value.int K))) (i : Nat) (hi : i < m) :
    ∃ g, a = some ⟨g, 0, none⟩ ∧ base ≤ g ∧ w.cell? ⟨g, i, none⟩ = some (.int K (l.getD i 0)) := by
  have hl : l.length = m := by have := h.1; simpa using this
  rcases h.2 with ⟨hv, hn⟩ | ⟨g, cap', cur, hv, hb, hg, hc, hm, hs, ht⟩
  · omega
  · simp only [Value.slice.injEq] at hv
    obtain ⟨rfl, rfl, rfl⟩ := hv
    refine ⟨g, rfl, hb, ?_⟩
    rw [cell_of hg i]
    have h1 : (cur.toList.take (n * 1))[i]? = some (Value.int K (l.getD i 0)) := by
      rw [ht, List.getElem?_map, List.getD_eq_getElem?_getD, List.getElem?_eq_getElem (by omega)]; rfl
    rw [List.getElem?_take, if_pos (by omega)] at h1
    simpa using h1
/-- What a call that makes memory alone leaves, as rules of the walk: old cells and old marks read as before. -/
theorem Keep.rules {w w' : World} (h : Keep (fun _ => False) w w') :
    (∀ b o, b < w.heap.size → w'.cell? ⟨b, o, none⟩ = w.cell? ⟨b, o, none⟩) ∧ (∀ b o, b < w.heap.size → w'.frozen? ⟨b, o, none⟩ = w.frozen? ⟨b, o, none⟩) :=
  ⟨fun b _ hb => World.cell?_of_block (w := w) (h.block b hb (fun h => h)), fun b _ hb => World.frozen?_of_block (w := w) (h.block b hb (fun h => h))⟩
theorem Keep.new {w0 w w' : World} (h : Keep (fun _ => False) w0 w) (k : Keep (fun _ => False) w w') : Keep (fun _ => False) w0 w' := h.trans k
/-- A store into a block that is new since w0. -/
theorem Keep.setNew {w0 w : World} (h : Keep (fun _ => False) w0 w) {p : Addr} (hp : w0.heap.size ≤ p.block) (u : Value) : Keep (fun _ => False) w0 (w.setCell p u) :=
  h.step (Keep.setCell (S := fun i => i = p.block) w u rfl) (fun i hi => .inr (by omega))
theorem Keep.allocR {S : Nat → Prop} {w0 w : World} (h : Keep S w0 w) (o : Obj) : Keep S w0 (w.alloc o) := h.trans (Keep.alloc _ _ _)
theorem Keep.drewR {S : Nat → Prop} {w0 w : World} (h : Keep S w0 w) : Keep S w0 w.drew := h.trans (Keep.drewN _ _ 1)
theorem Keep.drewNR {S : Nat → Prop} {w0 w : World} (h : Keep S w0 w) (n : Nat) : Keep S w0 (w.drewN n) := h.trans (Keep.drewN _ _ n)
theorem ret_bool {a b : Bool} (h : a = b) : Ending.returned (.bool a) = .returned (.bool b) := by rw [h]
theorem ret_int {k : IntKind} {a b : Int} (h : a = b) : Ending.returned (.int k a) = .returned (.int k b) := by rw [h]
/-- A world that is a given one but for new blocks: THE CLASS of a region that draws its order, whose calls may make memory. -/
structure Later (w : World) where
  world : World
  keep : Keep (fun _ => False) w world
instance (w : World) : Nonempty (Later w) := ⟨⟨w, Keep.refl _ _⟩⟩
theorem Later.rules (w : World) : (∀ (g : Later w) b o, b < w.heap.size → g.world.cell? ⟨b, o, none⟩ = w.cell? ⟨b, o, none⟩) ∧ (∀ (g : Later w) b o, b < w.heap.size → g.world.frozen? ⟨b, o, none⟩ = w.frozen? ⟨b, o, none⟩) :=
  ⟨fun g => g.keep.rules.1, fun g => g.keep.rules.2⟩
theorem wp_region_later {P : Program} {id : Nat} {Q : Exit → Act → World → Prop} {a : Act} {w : World} {l : List Oper} (hm : P.follows .mixedOrders = true) (hB : Region.lexB .any l.toArray = true)
    (h : wpQuiet P l.toArray (fun w' => ∃ g : Later w, w' = g.world) (fun a' => ∀ w', (∃ g : Later w, w' = g.world) → Q .normal a' w') l a) : (Code.region id l.toArray true).wp P Q a w :=
  wp_region_quiet (C := fun w' => ∃ g : Later w, w' = g.world) hm hB ⟨⟨w.drewN 1, Keep.drewN _ _ 1⟩, rfl⟩ (by simpa using h)
theorem Later.call {P : Program} {f : FuncId} {args : Array Value} {w : World} {g : Later w} {v : Value} (h : Calls P f args g.world fun e w' => e = .returned v ∧ Keep (fun _ => False) g.world w') :
    Calls P f args g.world fun e w'' => e = .returned v ∧ ∃ g' : Later w, w'' = g'.world :=
  h.mono fun _ w' ⟨he, hk⟩ => ⟨he, ⟨w', g.keep.trans hk⟩, rfl⟩
end Go.Proofs.Ytfoklfifgmacfaa
