/- A clock's count, read and raised (package sync/atomic, one goroutine). -/
import Derived.Test.YtcadamdlfelocaaS5
import Derived.Laws.LoneSync
namespace Go.Proofs.Ytcadamdlfelocaa
open Go.RowKit
set_option maxHeartbeats 400000 in
theorem load_any (w : World) (b o : Nat) (z : Int) (h : w.cell? ⟨b, o, none⟩ = some (.int .i64 z)) :
    Calls Try.prog 27 #[.pointer (some ⟨b, o, none⟩)] w fun e w' => e = .returned (.int .i64 z) ∧ w = w' := by
  have hl := run_call_load (P := Try.prog) Try.func31 (by kernel_rfl) (by kernel_rfl) (by kernel_rfl) .i64 (by kernel_rfl) h
  go_enter Try.func27, Try.ntmps27
  go_wp2
  go_ret
  exact ⟨rfl, rfl⟩
set_option maxHeartbeats 400000 in
theorem add_any (w : World) (b o : Nat) (z : Int) (h0 : 0 ≤ z) (h1 : z ≤ 1099511627776) (h : w.cell? ⟨b, o, none⟩ = some (.int .i64 z)) (hf : w.frozen? ⟨b, o, none⟩ = false) :
    Calls Try.prog 22 #[.pointer (some ⟨b, o, none⟩), .int .i64 1] w fun e w' => e = .returned (.int .i64 (z + 1)) ∧ w' = w.setCell ⟨b, o, none⟩ (.int .i64 (z + 1)) := by
  have hw : IntKind.i64.wrap (z + 1) = z + 1 := IntWalk.i64_in _ (by omega)
  have hl := run_call_add (P := Try.prog) Try.func29 (by kernel_rfl) (by kernel_rfl) (by kernel_rfl) .i64 (by kernel_rfl) (y := 1) (s := z + 1) h hf (by simp [go_sem, hw])
  clear hw
  go_enter Try.func22, Try.ntmps22
  go_wp2
  go_ret
  exact ⟨rfl, rfl⟩
/-- A clock: its site, its last stamp, how many it told. -/
structure Ck where
  site : Int
  last : St
  told : Int
structure Ck.Ok (c : Ck) : Prop where
  s : c.site = 1 ∨ c.site = 2
  l : c.last.good = true
  t0 : 0 ≤ c.told
  t1 : c.told ≤ 1000000
def Ck.tick (c : Ck) (now : Int) : Ck := if (c.last.next now c.site).2 = 0 then ⟨c.site, (c.last.next now c.site).1, c.told + 1⟩ else c
def Ck.meet (c : Ck) (x : St) : Ck := { c with last := c.last.later x }
/-- The clock c lies in the whole block b, of type T. -/
def IsCk (w : World) (b : Nat) (T : TypeId) (c : Ck) : Prop := w.heap[b]? = some (.cells #[.int .i64 c.site, .int .i64 c.last.n, .int .i64 c.last.s, .int .i64 c.told] T (0, 0))
theorem IsCk.keep {S : Nat → Prop} {w w' : World} {b : Nat} {T : TypeId} {c : Ck} (h : IsCk w b T c) (k : Keep S w w') (hs : ¬ S b) : IsCk w' b T c := k.heap h hs
theorem IsCk.keep0 {w w' : World} {b : Nat} {T : TypeId} {c : Ck} (h : IsCk w b T c) (k : Keep (fun _ => False) w w') : IsCk w' b T c := k.heap h (fun h => h)
theorem IsCk.lt {w : World} {b : Nat} {T : TypeId} {c : Ck} (h : IsCk w b T c) : b < w.heap.size := lt_of_block h
theorem IsCk.cells {w : World} {b : Nat} {T : TypeId} {c : Ck} (h : IsCk w b T c) : w.cell? ⟨b, 0, none⟩ = some (.int .i64 c.site) ∧ w.cell? ⟨b, 1, none⟩ = some (.int .i64 c.last.n) ∧
    w.cell? ⟨b, 2, none⟩ = some (.int .i64 c.last.s) ∧ w.cell? ⟨b, 3, none⟩ = some (.int .i64 c.told) := ⟨cell_of h 0, cell_of h 1, cell_of h 2, cell_of h 3⟩
theorem IsCk.free {w : World} {b : Nat} {T : TypeId} {c : Ck} (h : IsCk w b T c) (j : Nat) : w.frozen? ⟨b, j, none⟩ = false := free_of h j
theorem IsCk.setLast {w : World} {b : Nat} {T : TypeId} {c : Ck} (h : IsCk w b T c) (n s : Int) : IsCk ((w.setCell ⟨b, 1, none⟩ (.int .i64 n)).setCell ⟨b, 2, none⟩ (.int .i64 s)) b T { c with last := ⟨n, s⟩ } :=
  heap_setCell_at (heap_setCell_at h)
theorem IsCk.setTold {w : World} {b : Nat} {T : TypeId} {c : Ck} (h : IsCk w b T c) (z : Int) : IsCk (w.setCell ⟨b, 3, none⟩ (.int .i64 z)) b T { c with told := z } := heap_setCell_at h
theorem St.good_next {x : St} {now site : Int} (h : (x.next now site).2 = 0) : (x.next now site).1.good = true := by
  unfold St.next at h ⊢
  by_cases h1 : (site = 1 ∨ site = 2) ∧ x.good = true
  · rw [if_pos h1] at h ⊢
    by_cases h2 : x.nextN now ≤ 281474976710656
    · rw [if_pos h2]
      have hg := h1.2
      have hs := h1.1
      simp only [St.good, decide_eq_true_eq] at hg ⊢
      unfold St.nextN at h2 ⊢
      omega
    · rw [if_neg h2] at h; simp at h
  · rw [if_neg h1] at h; simp at h
theorem St.good_later {x y : St} (h : x.good = true) : (x.later y).good = true := by
  unfold St.later; split
  · rename_i h1; exact h1.1
  · exact h
set_option maxHeartbeats 400000 in
theorem cnone_nil (w : World) : Calls Try.prog 20 #[.pointer none] w fun e w' => e = .returned (.bool true) ∧ w = w' := by
  go_enter Try.func20, Try.ntmps20
  go_wp2
  all_goals (go_ret; exact ⟨rfl, rfl⟩)
set_option maxHeartbeats 400000 in
theorem cnone_zero (w : World) (b : Nat) (c1 c2 c3 : Value) (T : TypeId) (h : w.heap[b]? = some (.cells #[.int .i64 0, c1, c2, c3] T (0, 0))) :
    Calls Try.prog 20 #[.pointer (some ⟨b, 0, none⟩)] w fun e w' => e = .returned (.bool true) ∧ w = w' := by
  have h0 : w.cell? ⟨b, 0, none⟩ = some (.int .i64 0) := cell_of h 0
  clear h
  go_enter Try.func20, Try.ntmps20
  go_wp2
  all_goals (go_ret; exact ⟨rfl, rfl⟩)
set_option maxHeartbeats 400000 in
theorem cnone_any (w : World) (b : Nat) (c : Ck) (hc : c.Ok) (T : TypeId) (h : IsCk w b T c) :
    Calls Try.prog 20 #[.pointer (some ⟨b, 0, none⟩)] w fun e w' => e = .returned (.bool false) ∧ w = w' := by
  have h0 := h.cells.1
  have hb : (c.site == 0) = false := by have := hc.s; simp; omega
  clear h hc
  go_enter Try.func20, Try.ntmps20
  go_wp2
  all_goals (go_ret; exact ⟨rfl, rfl⟩)
end Go.Proofs.Ytcadamdlfelocaa
