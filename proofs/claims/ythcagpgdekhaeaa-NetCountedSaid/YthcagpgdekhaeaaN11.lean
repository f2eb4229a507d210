/- The chapter's example, walked. -/
import Derived.Test.YthcagpgdekhaeaaN10
import Derived.Lib.SlBytesConst
import Derived.ChangeKeysEq
namespace Go.Proofs.Ythcagpgdekhaeaa
open Go.RowKit
theorem bs_one {w : World} {lb : Nat} {x : UInt8} {fr : Nat × Nat} (h : w.heap[lb]? = some (.cells #[.int .u8 (x.toNat : Int)] 5 fr)) : Bs w (some ⟨lb, 0, none⟩) ⟨#[x]⟩ := fun i hi => by
  have h0 : i = 0 := by simp [ByteArray.size] at hi; omega
  subst h0
  exact ⟨lb, 0, rfl, cell_of h 0⟩
theorem cells3 : Try.prog.cellsOf 3 = 1 := by kernel_rfl
theorem info3 : ∃ i, Try.prog.info? 3 = some i := by
  cases h : Try.prog.info? 3 with
  | none => have := Try.underlying3; simp [Program.underlying, h] at this
  | some i => exact ⟨i, rfl⟩
theorem bytes_ext {a b : ByteArray} (h : a.toList = b.toList) : a = b := by
  rw [ByteArray.toList_eq, ByteArray.toList_eq] at h
  obtain ⟨⟨x⟩⟩ := a
  obtain ⟨⟨y⟩⟩ := b
  simpa using h
theorem bytes_beq (s t : ByteArray) : (s.toList == t.toList) = decide (s = t) := Bool.eq_iff_iff.2 ⟨fun h => decide_eq_true (bytes_ext (by simpa using h)), fun h => by simp [of_decide_eq_true h]⟩
theorem equalIn34 (d : Nat) (a b : Int) (s t : ByteArray) (w : World) : (Op.equalIn (d + 2) 34 (.agg #[.int .i64 a, .string s]) (.agg #[.int .i64 b, .string t])).run Try.prog w = .ok (decide (a = b ∧ s = t)) w := by
  have h3 := bytes_beq s t
  by_cases h1 : a = b <;> by_cases h2 : s = t
  all_goals simp only [h2, decide_true, decide_false] at h3
  all_goals go_simp
theorem equalIn47 (d : Nat) (a0 a1 a2 a3 b0 b1 b2 b3 : Int) (w : World) : (Op.equalIn (d + 2) 47 (.agg #[.int .i64 a0, .int .i64 a1, .int .i64 a2, .int .i64 a3]) (.agg #[.int .i64 b0, .int .i64 b1, .int .i64 b2, .int .i64 b3])).run Try.prog w = .ok (decide (a0 = b0 ∧ a1 = b1 ∧ a2 = b2 ∧ a3 = b3)) w := by
  obtain ⟨i, hi⟩ := info3
  rw [run_equalIn_array w (d + 1) _ _ Try.underlying47 hi, cells3]
  by_cases h0 : a0 = b0 <;> by_cases h1 : a1 = b1 <;> by_cases h2 : a2 = b2 <;> by_cases h3 : a3 = b3
  all_goals simp [Op.eqItems, List.range, List.range.loop, go_sem, h0, h1, h2, h3, Try.underlying3]
abbrev exA : Pk := (1, ⟨#[97]⟩)
def none1 (_ : Nat) : Prop := False
theorem ex_send {w W : World} {nb lb : Nat} {fr : Nat × Nat} (h : Own w W nb 2 [] 0 0 0 0 none1) (hb : W.heap[lb]? = some (.cells #[.int .u8 97] 5 fr)) :
    Calls Try.prog 11 #[.pointer (some ⟨nb, 0, none⟩), .int .i64 1, .slice (some ⟨lb, 0, none⟩) 1 1] W fun e w' => e = .returned (.int .i64 0) ∧ Own w w' nb 2 [exA] 1 0 0 0 none1 :=
  (h.send_ok 1 (some ⟨lb, 0, none⟩) ⟨#[97]⟩ 1 (.inl rfl) (by decide) (bs_one hb) (by decide) (by decide) (by decide) (by decide)).mono fun e w' ⟨he, hp, _⟩ => ⟨he, hp⟩
theorem ex_full {w W : World} {nb lb : Nat} {fr : Nat × Nat} (h : Own w W nb 2 [exA, exA] 1 0 0 1 none1) (hb : W.heap[lb]? = some (.cells #[.int .u8 98] 5 fr)) :
    Calls Try.prog 11 #[.pointer (some ⟨nb, 0, none⟩), .int .i64 2, .slice (some ⟨lb, 0, none⟩) 1 1] W fun e w' => e = .returned (.int .i64 210) ∧ Own w w' nb 2 [exA, exA] 1 0 0 1 none1 :=
  (h.send_full 2 (some ⟨lb, 0, none⟩) ⟨#[98]⟩ 1 (by decide) (.inr rfl) (by decide) (bs_one hb) (by decide) (by decide)).mono fun e w' ⟨he, hp, _⟩ => ⟨he, hp⟩
theorem ex_twice {w W : World} {nb : Nat} (h : Own w W nb 2 [exA] 1 0 0 0 none1) : Calls Try.prog 14 #[.pointer (some ⟨nb, 0, none⟩), .int .i64 0] W fun e w' => e = .returned (.int .i64 0) ∧ Own w w' nb 2 [exA, exA] 1 0 0 1 none1 :=
  (h.twice_ok 0 exA rfl (by decide) (by decide) (by decide) (by decide)).mono fun e w' ⟨he, hp, _⟩ => ⟨he, hp⟩
theorem ex_take {w W : World} {nb : Nat} (h : Own w W nb 2 [exA, exA] 1 0 0 1 none1) : Calls Try.prog 12 #[.pointer (some ⟨nb, 0, none⟩), .int .i64 1] W fun e w' => e = .returned (.tuple #[.agg #[.int .i64 1, .string ⟨#[97]⟩], .int .i64 0]) ∧ Own w w' nb 2 [exA] 1 1 0 1 none1 :=
  (h.take_ok 1 1 ⟨#[97]⟩ (by decide) rfl (by decide) (by decide) (by decide)).mono fun e w' ⟨he, hp, _⟩ => ⟨he, hp⟩
set_option maxHeartbeats 2000000 in
theorem lives_any (w : World) : Calls Try.prog 10 #[] w fun e w' => e = .returned (.bool true) ∧ Keep (fun _ => False) w w' := by
  have kc := fun (w : World) (C : Array Value) (n c : Nat) => Lib.run_convert_bytes_const (P := Try.prog) w 28 5 C n c Try.underlying28 Try.underlying5
  go_enter Try.func10, Try.ntmps10
  go_wp2_with (go_at_call 8; refine (own_new 2 _ _ none1 (Keep.refl _ _) (fun _ h => h.elim) (by decide) (by decide)).mono ?_; rintro e W1 ⟨nb, rfl, hn, _⟩; have N1 := Lib.hid hn; clear hn)
  with_reducible refine (ex_send (N1.out.keep0 (Keep.alloc _ _ _)) (heap_alloc_new _ _)).mono ?_
  rintro e W2 ⟨rfl, hn⟩
  have N2 := Lib.hid hn
  clear hn N1
  go_wp2_with fail
  with_reducible refine (ex_twice N2.out).mono ?_
  rintro e W3 ⟨rfl, hn⟩
  have N3 := Lib.hid hn
  clear hn N2
  go_wp2_with fail
  with_reducible refine (ex_full (N3.out.keep0 (Keep.alloc _ _ _)) (heap_alloc_new _ _)).mono ?_
  rintro e W4 ⟨rfl, hn⟩
  have N4 := Lib.hid hn
  clear hn N3
  go_wp2_with fail
  with_reducible refine (ex_take N4.out).mono ?_
  rintro e W5 ⟨rfl, hn⟩
  have N5 := Lib.hid hn
  clear hn N4
  have H34 := fun w => equalIn34 9998 1 1 ⟨#[97]⟩ ⟨#[97]⟩ w
  simp only [and_self, decide_true] at H34
  go_wp2_with fail
  with_reducible refine ((N5.out.keep0 (Keep.alloc _ _ _)).counts (by decide)).mono ?_
  rintro e W6 ⟨rfl, hn, _⟩
  have N6 := Lib.hid hn
  clear hn N5
  have H47 := fun w => equalIn47 9998 1 1 0 1 1 1 0 1 w
  simp only [and_self, decide_true] at H47
  go_wp2_with fail
  go_ret
  exact ⟨rfl, N6.out.keep⟩
end Go.Proofs.Ythcagpgdekhaeaa
