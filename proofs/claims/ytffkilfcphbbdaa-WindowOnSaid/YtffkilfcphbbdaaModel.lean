/- The window as plain numbers: what Next does to them and tells. No program in sight. No condition. -/
import Derived.Test.YtffkilfcphbbdaaBase
namespace Go.Proofs.Ytffkilfcphbbdaa
open Go.RowKit
structure Win where
  size : Int
  wait : Int
  ack : Int
  sent : Int
  time : Int
/-- The numbers s+1 .. s+k. -/
def upTo (s : Int) (k : Nat) : List Int := (List.range k).map fun i : Nat => s + 1 + (i : Int)
theorem upTo_length (s : Int) (k : Nat) : (upTo s k).length = k := by simp [upTo]
theorem upTo_zero (s : Int) : upTo s 0 = [] := rfl
theorem upTo_succ (s : Int) (k : Nat) : upTo s (k + 1) = upTo s k ++ [s + 1 + (k : Int)] := by
  unfold upTo; rw [List.range_succ, List.map_append]; rfl
theorem upTo_getD (s : Int) (k i : Nat) (h : i < k) : (upTo s k).getD i 0 = s + 1 + (i : Int) := by
  simp [upTo, h]
def Win.ack1 (x : Win) (ack : Int) : Int := max x.ack ack
def Win.sent1 (x : Win) (ack now : Int) : Int := if x.sent < x.ack1 ack ∨ x.wait ≤ now - x.time then x.ack1 ack else x.sent
def Win.few (x : Win) (ack hav now : Int) : Nat := (min hav (x.ack1 ack + x.size) - x.sent1 ack now).toNat
def Win.out (x : Win) (ack hav now : Int) : List Int := upTo (x.sent1 ack now) (x.few ack hav now)
def Win.next (x : Win) (ack hav now : Int) : Win :=
  if x.few ack hav now = 0 then { x with ack := x.ack1 ack, sent := x.sent1 ack now }
  else { x with ack := x.ack1 ack, sent := x.sent1 ack now + x.few ack hav now, time := now }
def Win.good (ack hav now : Int) : Bool := decide (0 ≤ ack ∧ 0 ≤ now ∧ ack ≤ hav ∧ hav ≤ 1099511627776 ∧ now ≤ 1099511627776)
def Win.reset (x : Win) : Win := { x with sent := x.ack }
structure Win.Ok (x : Win) : Prop where
  s1 : 1 ≤ x.size
  s2 : x.size ≤ 16
  w1 : 1 ≤ x.wait
  w2 : x.wait ≤ 64
  a1 : 0 ≤ x.ack
  a2 : x.ack ≤ 1099511627776
  t1 : 0 ≤ x.sent
  t2 : x.sent ≤ x.ack + x.size
  m1 : 0 ≤ x.time
  m2 : x.time ≤ 1099511627776
/-- The window x lies in the whole block b. -/
def IsWin (w : World) (b : Nat) (T : TypeId) (x : Win) : Prop :=
  w.heap[b]? = some (.cells #[.int .i64 x.size, .int .i64 x.wait, .int .i64 x.ack, .int .i64 x.sent, .int .i64 x.time] T (0, 0))
theorem IsWin.keep {S : Nat → Prop} {w w' : World} {b : Nat} {T : TypeId} {x : Win} (h : IsWin w b T x) (k : Keep S w w') (hs : ¬ S b) : IsWin w' b T x := k.heap h hs
theorem IsWin.lt {w : World} {b : Nat} {T : TypeId} {x : Win} (h : IsWin w b T x) : b < w.heap.size := lt_of_block h
theorem Win.ok_reset {x : Win} (h : x.Ok) : x.reset.Ok :=
  ⟨h.s1, h.s2, h.w1, h.w2, h.a1, h.a2, h.a1, by have := h.s1; simp only [Win.reset]; omega, h.m1, h.m2⟩
theorem Win.few_le {x : Win} (h : x.Ok) (ack hav now : Int) : (x.few ack hav now : Int) ≤ 16 := by
  have := h.s2; have := h.a1; have := h.t2; unfold few sent1 ack1; have := h.s1; omega
theorem Win.ok_next {x : Win} (h : x.Ok) {ack hav now : Int} (hg : Win.good ack hav now = true) : (x.next ack hav now).Ok := by
  obtain ⟨h1, h2, h3, h4, h5, h6, h7, h8, h9, h10⟩ := h
  simp only [good, decide_eq_true_eq] at hg
  unfold next
  by_cases hf : x.few ack hav now = 0
  · rw [if_pos hf]
    constructor <;> (try dsimp only) <;> (try simp only [ack1, sent1]) <;> omega
  · rw [if_neg hf]
    have hq : (x.few ack hav now : Int) = min hav (x.ack1 ack + x.size) - x.sent1 ack now := by
      unfold few at hf ⊢; omega
    constructor <;> (try dsimp only) <;> (try rw [hq]) <;> (try simp only [ack1, sent1]) <;> omega
end Go.Proofs.Ytffkilfcphbbdaa
