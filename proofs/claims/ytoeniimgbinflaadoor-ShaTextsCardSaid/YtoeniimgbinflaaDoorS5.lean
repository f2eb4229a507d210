/- What Add needs: slices, copies, stores of many cells. -/
import Derived.Test.YtoeniimgbinflaaDoorS4
namespace Go.Proofs.YtoeniimgbinflaaDoor
open Go.RowKit
/-- Bytes that can be read at an address. -/
def Bl (w : World) (a : Option Addr) (xs : List UInt8) : Prop := ∀ i x, xs[i]? = some x → ∃ b o, a = some ⟨b, o, none⟩ ∧ w.cell? ⟨b, o + i, none⟩ = some (.int .u8 (x.toNat : Int))
theorem Bl.keep {S : Nat → Prop} {w w' : World} {a : Option Addr} {xs : List UInt8} (h : Bl w a xs) (k : Keep S w w') (hs : ∀ ad, a = some ad → ¬ S ad.block) : Bl w' a xs := fun i x hx => by
  obtain ⟨b, o, e, hc⟩ := h i x hx
  refine ⟨b, o, e, ?_⟩
  rw [World.cell?_of_block (w := w) (k.block b (World.block_lt_of_cell? w _ hc) (hs _ e))]
  exact hc
theorem Bl.keep0 {w w' : World} {a : Option Addr} {xs : List UInt8} (h : Bl w a xs) (k : Keep (fun _ => False) w w') : Bl w' a xs := h.keep k (fun _ _ h => h)
def sliceLen : Value → Nat
  | .slice _ n _ => n
  | _ => 0
theorem take_mid {α : Type} (A B C : List α) (n r : Nat) (hn : A.length = n) (hr : r ≤ B.length) : (A ++ (B ++ C)).take (n + r) = A ++ B.take r := by
  rw [List.take_append, hn, show n + r - n = r by omega, List.take_of_length_le (by omega), List.take_append_of_le_length hr]
theorem drop_mid {α : Type} (A B C : List α) (n r : Nat) (hn : A.length = n) (hr : r ≤ B.length) : (A ++ (B ++ C)).drop (n + r) = B.drop r ++ C := by
  rw [List.drop_append, hn, show n + r - n = r by omega, List.drop_eq_nil_of_le (by omega), List.nil_append, List.drop_append_of_le_length hr]
theorem stc_eq (s : H8) (wt : List UInt8) (n : Int) : stc s wt n = (Value.bool true :: s.cs) ++ (bv wt ++ [Value.int .i64 n]) := rfl
theorem stc_splice (s : H8) (wt zs : List UInt8) (n : Int) (r : Nat) (hw : wt.length = 64) (hr : r + zs.length ≤ 64) : (stc s wt n).take (9 + r) ++ bv zs ++ (stc s wt n).drop (9 + r + (bv zs).length) = stc s (splice wt r zs) n := by
  rw [stc_eq, stc_eq, take_mid _ _ _ 9 r rfl (by rw [bv_length]; omega), Nat.add_assoc, drop_mid _ _ _ 9 _ rfl (by rw [bv_length, bv_length]; omega), bv_length]
  unfold splice bv
  simp [List.map_take, List.map_drop, List.append_assoc]
theorem stc_setn (s : H8) (wt : List UInt8) (n m : Int) (hw : wt.length = 64) : (stc s wt n).set 73 (Value.int .i64 m) = stc s wt m := by
  have hc : s.cs.length = 8 := rfl
  rw [stc_eq, stc_eq, List.set_append_right _ _ (by simp [hc]), List.set_append_right _ _ (by simp [hc, bv_length, hw])]
  simp [hc, bv_length, hw]
theorem stc_sets (s t : H8) (wt : List UInt8) (n : Int) : (stc s wt n).take 1 ++ t.cs ++ (stc s wt n).drop (1 + t.cs.length) = stc t wt n := rfl
theorem run_storeVar_at {P : Program} (w : World) (g o : Nat) (t ty : TypeId) (cur : Array Value) (cs : List Value) (hg : w.heap[g]? = some (.cells cur t (0, 0))) (hi : (P.info? ty).map (·.size) = some cs.length) (hf : o + cs.length ≤ cur.size) (h1 : ∀ v ∈ cs, v.oneCell' = true) :
    (Instr.storeAt ty (.pointer (some ⟨g, o, none⟩)) (.agg cs.toArray)).run P w = .ok () (w.setRow g (cur.toList.take o ++ cs ++ cur.toList.drop (o + cs.length)).toArray) := by
  have hst := run_storeCells_at P g o t cs 0 cur w hg (by simpa using hf) h1
  cases hq : P.info? ty with
  | none => simp [hq] at hi
  | some i =>
    have hs : i.size = cs.length := by simpa [hq] using hi
    simp only [Nat.add_zero] at hst
    simp [Instr.storeAt, Instr.sureAddr, storeVar, sizeOf, typeInfo, hq, Value.cells, hs, hst]
theorem stc_sumsAt {w : World} {sb : Nat} {s : H8} {wt : List UInt8} {n : Int} {t : TypeId} (h : w.heap[sb]? = some (.cells (stc s wt n).toArray t (0, 0))) : w.rangeAt sb 1 s.cs := fun j v hv => by
  rw [cell_of h, List.getElem?_toArray, stc, Nat.add_comm 1 j, List.getElem?_cons_succ, List.getElem?_append_left (List.getElem?_eq_some_iff.1 hv).1, hv]
theorem stc_waitsAt {w : World} {sb : Nat} {s : H8} {wt : List UInt8} {n : Int} {t : TypeId} (h : w.heap[sb]? = some (.cells (stc s wt n).toArray t (0, 0))) : w.rangeAt sb 9 (bv wt) := fun j v hv => by
  rw [cell_of h, List.getElem?_toArray, stc_eq, List.getElem?_append_right (Nat.le_add_right 9 j), show (Value.bool true :: s.cs).length = 9 from rfl, Nat.add_sub_cancel_left, List.getElem?_append_left (List.getElem?_eq_some_iff.1 hv).1, hv]
theorem bv_one (b : List UInt8) : ∀ v ∈ bv b, v.oneCell' = true := by
  intro v hv
  simp only [bv, List.mem_map] at hv
  obtain ⟨x, _, rfl⟩ := hv
  rfl
/-- A copy into the bytes that wait. -/
theorem copy_waits {w : World} {sb : Nat} {s : H8} {wt zs : List UInt8} {n : Int} (h : w.heap[sb]? = some (.cells (stc s wt n).toArray 41 (0, 0))) (hw : wt.length = 64) (r m cap : Nat) (ad : Addr) (hr : r < 64) (hz : zs.length = Nat.min m (64 - r)) (hs : ∀ j v, (bv zs)[j]? = some v → w.cell? (ad.add j) = some v) :
    ∃ X, (Builtin.copy_ #[22, 22] 3 #[.slice (some ⟨sb, 9 + r, none⟩) (64 - r) (64 - r), .slice (some ad) m cap]).run Tryd.prog w = .ok (.int .i64 zs.length) X ∧ Keep (fun i => i = sb) w X ∧ X.heap[sb]? = some (.cells (stc s (splice wt r zs) n).toArray 41 (0, 0)) := by
  have hle : zs.length ≤ 64 - r := by rw [hz]; exact Nat.min_le_right _ _
  have hc := run_copy_row (P := Tryd.prog) w 22 22 3 5 sb (9 + r) (64 - r) (64 - r) ad m cap _ 41 (bv zs) Tryd.underlying22 (by kernel_rfl) h (by rw [bv_length]; exact hz) hs (by rw [bv_length, List.size_toArray, stc_length _ _ _ hw]; omega) (bv_one zs)
  rw [show (stc s wt n).toArray.toList = stc s wt n from rfl, stc_splice s wt zs n r hw (by omega), bv_length] at hc
  exact ⟨_, hc, ⟨rfl, rfl, rfl, by simp, fun k _ hs => setRow_other w sb k _ hs⟩, setRow_heap w sb _ _ 41 (0, 0) h⟩
theorem under39 : Tryd.prog.underlying 39 = some (.array (Tryd.prog.arrayLen 39) (Tryd.prog.elem 39)) := by kernel_rfl
theorem len39 : Tryd.prog.arrayLen 39 = 64 := by kernel_rfl
theorem size39 (W : World) : (sizeOf (Tryd.prog.elem 39)).run Tryd.prog W = .ok 1 W := by kernel_rfl
theorem slice39 (sb r : Nat) (hr : r < 64) (W : World) : (Instr.sliceAt 39 (.pointer (some ⟨sb, 9, none⟩)) (some (.int .i64 (r : Int))) none none).run Tryd.prog W = .ok (.slice (some ⟨sb, 9 + r, none⟩) (64 - r) (64 - r)) W := by
  rw [run_sliceAt_array_l W 39 ⟨sb, 9, none⟩ under39 .i64 r (by omega) (by rw [len39]; omega), len39, size39]
  simp only [Result.andThen_ok, slicedAt, Int.toNat_natCast, Nat.mul_one, add_none]
  rw [if_neg (by omega)]
theorem under22 : Tryd.prog.underlying 22 = some (.slice (Tryd.prog.elem 22)) := by kernel_rfl
theorem size22 (W : World) : (sizeOf (Tryd.prog.elem 22)).run Tryd.prog W = .ok 1 W := by kernel_rfl
theorem slice22 (b1 o1 m cap k : Nat) (hk : k ≤ m) (hc : m ≤ cap) : ∃ a2 : Addr, (∀ W, (Instr.sliceAt 22 (.slice (some ⟨b1, o1, none⟩) m cap) (some (.int .i64 (k : Int))) none none).run Tryd.prog W = .ok (.slice (some a2) (m - k) (cap - k)) W) ∧ a2.block = b1 ∧ (k < m → a2 = ⟨b1, o1 + k, none⟩) := by
  refine ⟨if cap = k then ⟨b1, o1, none⟩ else ⟨b1, o1 + k, none⟩, fun W => ?_, by split <;> rfl, fun h => by rw [if_neg (by omega)]⟩
  rw [run_sliceAt_slice W 22 _ _ _ _ under22, run_slice_l W 22 _ m cap under22 .i64 k (by omega) (by omega), size22]
  simp only [Result.andThen_ok, sliced, Int.toNat_natCast, Nat.mul_one, Option.map_some, add_none]
  split <;> rfl
/-- What a round takes of the bytes that are left. -/
theorem Bl.take {w : World} {b o : Nat} {ys : List UInt8} (h : Bl w (some ⟨b, o, none⟩) ys) (k : Nat) : ∀ j v, (bv (ys.take k))[j]? = some v → w.cell? ((⟨b, o, none⟩ : Addr).add j) = some v := by
  intro j v hv
  unfold bv at hv
  rw [List.getElem?_map, Option.map_eq_some_iff] at hv
  obtain ⟨x, hx, rfl⟩ := hv
  rw [List.getElem?_take] at hx
  split at hx
  · obtain ⟨b', o', e, hc⟩ := h j x hx
    simp only [Option.some.injEq, Addr.mk.injEq] at e
    obtain ⟨rfl, rfl, _⟩ := e
    rw [add_none]; exact hc
  · cases hx
theorem Bl.drop {w : World} {b o : Nat} {ys : List UInt8} (h : Bl w (some ⟨b, o, none⟩) ys) (k : Nat) (a : Addr) (ha : k < ys.length → a = ⟨b, o + k, none⟩) : Bl w (some a) (ys.drop k) := by
  intro i x hx
  rw [List.getElem?_drop] at hx
  have hlt := (List.getElem?_eq_some_iff.1 hx).1
  obtain ⟨b', o', e, hc⟩ := h (k + i) x hx
  simp only [Option.some.injEq, Addr.mk.injEq] at e
  obtain ⟨rfl, rfl, _⟩ := e
  exact ⟨b, o + k, by rw [ha (by omega)], by rw [Nat.add_assoc]; exact hc⟩
/-- A load of many cells, in a region that only reads. -/
theorem wpQuiet_load {P : Program} {ops : Array Oper} {C : World → Prop} {Q : Act → Prop} {a : Act} {o : Oper} {rest : List Oper} (hg : o.guard = none) (ty : TypeId) (x : Operand) (ho : o.op = .load ty x) (p : Addr) (v : Value) (hx : a.eval x = .pointer (some p))
    (hL : ∀ w, C w → (Instr.loadAt ty (.pointer (some p))).run P w = .ok v w) (h : wpQuiet P ops C Q rest (a.put o.dst v)) : wpQuiet P ops C Q (o :: rest) a := by
  unfold wpQuiet
  have hw : Region.wanted o (yielded ops a.tmps) = true := by simp [Region.wanted, hg]
  rw [if_pos hw]
  refine ⟨v, fun w hc => ?_, h⟩
  unfold Oper.quietAt execOp
  simp only [ho, hx]
  rw [Sem.run_bind, hL w hc]
  exact ⟨rfl, rfl⟩
/-- A store of whatever, by its run. -/
theorem wpList_store_to {P : Program} {ops : Array Oper} {rest : List Oper} {o : Oper} {a : Act} {w : World} {Q : Exit → Act → World → Prop} (hgd : o.guard = none) (hd : o.dst = none) (ty : TypeId) (x y : Operand) (ho : o.op = .store ty x y) (p : Addr) (v : Value) (hx : a.eval x = .pointer (some p)) (hy : a.eval y = v) (Z : World)
    (hs : (Instr.storeAt ty (.pointer (some p)) v).run P w = .ok () Z) (h : wpList P ops Q rest a Z) : wpList P ops Q (o :: rest) a w :=
  wpList_plain hgd fun K hK => by
    unfold Oper.wp execOp
    have e : K (a.put o.dst undef) Z := by rw [show a.put o.dst undef = a by rw [hd]; rfl]; exact hK _ _ h
    simp only [ho, hx, hy, Sem.run_bind, Sem.run_pure, Result.andThen_ok, hs]
    exact e
theorem Keep.row {w : World} {g : Nat} (cs : Array Value) : Keep (fun i => i = g) w (w.setRow g cs) := ⟨rfl, rfl, rfl, by simp, fun k _ hs => setRow_other w g k cs hs⟩
end Go.Proofs.YtoeniimgbinflaaDoor
