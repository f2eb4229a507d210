/- Send, walked. -/
import Derived.Test.YthcagpgdekhaeaaN3
import Derived.Lib.SlBytesRow
import Derived.Lib.BufferRead
namespace Go.Proofs.Ythcagpgdekhaeaa
open Go.RowKit
/-- A slice of bytes reads as s. -/
def Bs (w : World) (a : Option Addr) (s : ByteArray) : Prop := ∀ i (h : i < s.size), ∃ b o, a = some ⟨b, o, none⟩ ∧ w.cell? ⟨b, o + i, none⟩ = some (.int .u8 (s[i].toNat : Int))
theorem Bs.keep {S : Nat → Prop} {w w' : World} {a : Option Addr} {s : ByteArray} (h : Bs w a s) (k : Keep S w w') (hs : ∀ b o, a = some ⟨b, o, none⟩ → b < w.heap.size → ¬ S b) : Bs w' a s := fun i hi => by
  obtain ⟨b, o, e, hc⟩ := h i hi
  have hb := World.block_lt_of_cell? w _ hc
  exact ⟨b, o, e, (World.cell?_of_block (k.block b hb (hs b o e hb))).trans hc⟩
theorem Bs.keep0 {w w' : World} {a : Option Addr} {s : ByteArray} (h : Bs w a s) (k : Keep (fun _ => False) w w') : Bs w' a s := h.keep k (fun _ _ _ _ h => h)
theorem size_zero {s : ByteArray} (h : s.size = 0) : s = ⟨#[]⟩ := by
  obtain ⟨d⟩ := s
  have : d.size = 0 := h
  rw [Array.eq_empty_of_size_eq_zero this]
theorem Bs.conv {w : World} {a : Option Addr} {s : ByteArray} (h : Bs w a s) (cap : Nat) : (convert 28 9 (.slice a s.size cap)).run Try.prog w = .ok (.string s) w := by
  by_cases h0 : s.size = 0
  · have hs := size_zero h0
    rw [h0]
    cases a with
    | none => rw [Lib.run_convert_nil_bytes (P := Try.prog) w 28 9 5 cap Try.underlying28 Try.underlying5 Try.underlying9, hs]
    | some ad =>
      rw [run_convert_bytes_string w 28 9 5 _ 0 cap Try.underlying28 Try.underlying5 Try.underlying9, run_bytesToString w ad 0 cap [] (by simp [loadCells, loadCellsFrom]), hs]
      rfl
  · obtain ⟨b, o, rfl, _⟩ := h 0 (by omega)
    exact Lib.run_convert_whole (P := Try.prog) w 28 5 9 Try.underlying28 Try.underlying5 Try.underlying9 b o s (fun i hi => by
      obtain ⟨b', o', e, hc⟩ := h i hi
      simp only [Option.some.injEq, Addr.mk.injEq] at e
      obtain ⟨rfl, rfl, _⟩ := e
      exact hc) cap
theorem send_nobody {v : Value} (f : Int) (a : Option Addr) (n cap : Nat) (w : World) (h : Nobody w v) : Calls Try.prog 11 #[v, .int .i64 f, .slice a n cap] w fun e w' => e = .returned (.int .i64 1) ∧ w' = w := by
  have H := Lib.hid h
  clear h
  go_enter Try.func11, Try.ntmps11
  go_wp2_with (go_at_call 23; refine (none_nobody _ H.out).mono ?_; rintro e w' ⟨rfl, rfl⟩)
  go_ret
  exact ⟨rfl, rfl⟩
theorem send_arg (nb base : Nat) (most : Int) (v : Value) (ps : List Pk) (c0 c1 c2 c3 : Int) (f : Int) (a : Option Addr) (n cap : Nat) (w : World) (h : NetAt w nb base most v ps c0 c1 c2 c3) (hm : 1 ≤ most) (hf : f ≠ 1 ∧ f ≠ 2) :
    Calls Try.prog 11 #[.pointer (some ⟨nb, 0, none⟩), .int .i64 f, .slice a n cap] w fun e w' => e = .returned (.int .i64 2) ∧ w' = w := by
  have HN : Hid (Calls Try.prog 23 #[.pointer (some ⟨nb, 0, none⟩)] w fun e w' => e = .returned (.bool false) ∧ w' = w) := none_at nb most w h.cells.1 (beq_eq_false_iff_ne.2 (by omega))
  have e1 : (f == 1) = false := beq_eq_false_iff_ne.2 hf.1
  have e2 : (f == 2) = false := beq_eq_false_iff_ne.2 hf.2
  have e3 : (f != 1) = true := by simp [bne, e1]
  have e4 : (f != 2) = true := by simp [bne, e2]
  clear h hf
  go_enter Try.func11, Try.ntmps11
  go_wp2_with (go_at_call 23; refine HN.out.mono ?_; rintro e w' ⟨rfl, rfl⟩)
  go_ret
  exact ⟨rfl, rfl⟩
theorem from_ok {f : Int} (hf : f = 1 ∨ f = 2) : ((f != 1) = true ∧ (f != 2) = false) ∨ ((f != 1) = false ∧ (f != 2) = true) := by
  rcases hf with rfl | rfl <;> simp
theorem send_long (nb base : Nat) (most : Int) (v : Value) (ps : List Pk) (c0 c1 c2 c3 : Int) (f : Int) (a : Option Addr) (n cap : Nat) (w : World) (h : NetAt w nb base most v ps c0 c1 c2 c3) (hm : 1 ≤ most) (hf : f = 1 ∨ f = 2) (hn : 1048592 < n) :
    Calls Try.prog 11 #[.pointer (some ⟨nb, 0, none⟩), .int .i64 f, .slice a n cap] w fun e w' => e = .returned (.int .i64 3) ∧ w' = w := by
  have HN : Hid (Calls Try.prog 23 #[.pointer (some ⟨nb, 0, none⟩)] w fun e w' => e = .returned (.bool false) ∧ w' = w) := none_at nb most w h.cells.1 (beq_eq_false_iff_ne.2 (by omega))
  clear h
  have hn' : (1048592 : Int) < n := by omega
  rcases from_ok hf with ⟨e1, e2⟩ | ⟨e1, e2⟩
  all_goals
    go_enter Try.func11, Try.ntmps11
    go_wp2_with (go_at_call 23; refine HN.out.mono ?_; rintro e w' ⟨rfl, rfl⟩)
    go_ret
    exact ⟨rfl, rfl⟩
theorem send_full (nb base : Nat) (most : Int) (v : Value) (ps : List Pk) (c0 c1 c2 c3 : Int) (f : Int) (a : Option Addr) (s : ByteArray) (cap : Nat) (w : World) (h : NetAt w nb base most v ps c0 c1 c2 c3) (hm : 1 ≤ most) (hf : f = 1 ∨ f = 2) (hn : s.size ≤ 1048592) (hb : Bs w a s) (hr : most ≤ ps.length) (h64 : ps.length ≤ 64) :
    Calls Try.prog 11 #[.pointer (some ⟨nb, 0, none⟩), .int .i64 f, .slice a s.size cap] w fun e w' => e = .returned (.int .i64 210) ∧ Keep (fun _ => False) w w' := by
  have HN : Hid (Calls Try.prog 23 #[.pointer (some ⟨nb, 0, none⟩)] w fun e w' => e = .returned (.bool false) ∧ w' = w) := none_at nb most w h.cells.1 (beq_eq_false_iff_ne.2 (by omega))
  have hc := hb.conv cap
  have HP : Hid (∀ lb W, Keep (fun _ => False) w W → Calls Try.prog 24 #[.pointer (some ⟨nb, 0, none⟩), .int .i64 0, .slice (some ⟨lb, 0, none⟩) 1 1] W fun e w' => e = .returned (.int .i64 210) ∧ Keep (fun _ => False) W w') := fun lb W k => put_full 0 nb base most v ps c0 c1 c2 c3 lb 1 W (h.keep0 k) hr h64
  clear h hb
  have hn' : ¬ (1048592 : Int) < s.size := by omega
  generalize s.size = n at *
  rcases from_ok hf with ⟨e1, e2⟩ | ⟨e1, e2⟩
  all_goals
    clear hf
    go_enter Try.func11, Try.ntmps11
    go_wp2_with (first | (go_at_call 23; refine HN.out.mono ?_; rintro e w' ⟨rfl, rfl⟩) | (go_at_call 24; refine (HP.out _ _ (Keep.alloc _ _ _)).mono ?_; rintro e wx ⟨rfl, hk⟩; have KX := Lib.hid ((Keep.alloc (fun _ => False) _ _).trans hk); clear hk))
    go_ret
    exact ⟨rfl, KX.out⟩
theorem Moved.alloc {w : World} {o : Obj} {v v' : Value} (h : Moved (w.alloc o) v v') : Moved w v v' := by
  rcases h with h | ⟨g, h1, h2⟩
  · exact .inl h
  · exact .inr ⟨g, Nat.le_trans (by simp) h1, h2⟩
set_option maxHeartbeats 1000000 in
theorem send_ok (nb base : Nat) (most : Int) (v : Value) (ps : List Pk) (c0 c1 c2 c3 : Int) (f : Int) (a : Option Addr) (s : ByteArray) (cap : Nat) (w : World) (h : NetAt w nb base most v ps c0 c1 c2 c3) (hm : 1 ≤ most) (hf : f = 1 ∨ f = 2) (hn : s.size ≤ 1048592) (hb : Bs w a s)
    (hr : (ps.length : Int) < most) (h64 : most ≤ 64) (hbase : base ≤ w.heap.size) (hc0 : 0 ≤ c0) (hc1 : c0 ≤ 1000000000) :
    Calls Try.prog 11 #[.pointer (some ⟨nb, 0, none⟩), .int .i64 f, .slice a s.size cap] w fun e w' => ∃ v', e = .returned (.int .i64 0) ∧ NetAt w' nb base most v' (ps ++ [(f, s)]) (c0 + 1) c1 c2 c3 ∧ Moved w v v' ∧ Keep (fun i => i = nb ∨ v.ownBlock = some i) w w' := by
  have HN : Hid (Calls Try.prog 23 #[.pointer (some ⟨nb, 0, none⟩)] w fun e w' => e = .returned (.bool false) ∧ w' = w) := none_at nb most w h.cells.1 (beq_eq_false_iff_ne.2 (by omega))
  have hc := hb.conv cap
  have HP : Hid (∀ lb W, Keep (fun _ => False) w W → W.heap[lb]? = some (.cells #[.int .i64 f, .string s] 34 (0, 0)) → Calls Try.prog 24 #[.pointer (some ⟨nb, 0, none⟩), .int .i64 0, .slice (some ⟨lb, 0, none⟩) 1 1] W fun e w' => ∃ v', e = .returned (.int .i64 0) ∧ NetAt w' nb base most v' (ps ++ [(f, s)]) (c0 + 1) c1 c2 c3 ∧ Moved W v v' ∧ Keep (fun i => i = nb ∨ v.ownBlock = some i) W w') :=
    fun lb W k hl => put_sent nb base most v ps c0 c1 c2 c3 lb 1 f s W (h.keep0 k) hl hr h64 (Nat.le_trans hbase k.size) hc0 hc1
  clear h hb
  have hn' : ¬ (1048592 : Int) < s.size := by omega
  generalize s.size = n at *
  rcases from_ok hf with ⟨e1, e2⟩ | ⟨e1, e2⟩
  all_goals
    clear hf
    go_enter Try.func11, Try.ntmps11
    go_wp2_with (first | (go_at_call 23; refine HN.out.mono ?_; rintro e w' ⟨rfl, rfl⟩) | (go_at_call 24; refine (HP.out _ _ (Keep.alloc _ _ _) (heap_alloc_new _ _)).mono ?_; rintro e wx ⟨v', rfl, hk⟩; have KX := Lib.hid hk; clear hk))
    go_ret
    exact ⟨v', rfl, KX.out.1, KX.out.2.1.alloc, (Keep.alloc _ _ _).trans KX.out.2.2⟩
end Go.Proofs.Ythcagpgdekhaeaa
