/- The iterator of join.grown, walked. -/
import Derived.Test.YtfoklfifgmacfaaE3
namespace Go.Proofs.Ytfoklfifgmacfaa
open Go.RowKit Go.Shelf
attribute [local go_sem] Oper.semAt_some
theorem grownBy_of {w w' : World} {row : Option Nat} (h : Keep (fun i => row = some i) w w') : w.grownBy w' row := ⟨h.os, h.tape, h.output, h.size, fun k hk hn => h.block k hk (fun e => hn e.symm)⟩
theorem AbideIt.keep {α : Type} {B : Nat} {J : List α → World → Prop} (h : AbideIt B J) {s : List α} {W W' : World} (hs : J s W) (k : Keep (fun _ => False) W W') : J s W' :=
  h s W W' none hs (grownBy_of (k.mono (fun i e => e.elim))) (fun r e => by cases e)
theorem AbideIt.turn {α : Type} {B : Nat} {J : List α → World → Prop} (h : AbideIt B J) {s : List α} {W W' : World} {r : Nat} {x : C} (hs : J s W) (hx : IsC W r x) (hB : B ≤ r) (k : Keep (fun i => i = r) W W') : J s W' :=
  h s W W' (some r) hs (grownBy_of (k.mono (fun i e => by rw [e]))) (fun r' e => by cases e; exact ⟨hB, _, _, hx⟩)
theorem join_good {p : Int} (hp : p = 1 ∨ p = 2) {l : List C} (hg : ∀ c ∈ l, c.good p = true) : ∀ k, k ≤ l.length → (C.join (l.take k)).good p = true := by
  intro k
  induction k with
  | zero => intro _; exact C.zero_good hp
  | succ k ih =>
    intro hk
    have hx := getD_at (show k < l.length by omega)
    rw [join_step l k _ hx]
    exact C.good_two (ih (by omega)) (hg _ (List.mem_of_getElem? hx))
def encI (ls : List C) (x : Fin ls.length) : Array Value := #[.int .i64 ((x.val : Nat) : Int), .agg #[.int .i64 (C.join (ls.take x.val)).n, .int .i64 (C.join (ls.take x.val)).s, .int .i64 (C.join (ls.take x.val)).v0, .int .i64 (C.join (ls.take x.val)).v1, .bool (C.join (ls.take x.val)).gone, .string (C.join (ls.take x.val)).value, .int .i64 (C.join (ls.take x.val)).d0, .int .i64 (C.join (ls.take x.val)).d1]]
def firsts (N k : Nat) : List (Fin N) := (List.finRange N).take k
theorem firsts_length {N k : Nat} (h : k ≤ N) : (firsts N k).length = k := by unfold firsts; rw [List.length_take, List.length_finRange]; omega
theorem firsts_succ {N k : Nat} (h : k < N) : firsts N (k + 1) = firsts N k ++ [⟨k, h⟩] := by
  unfold firsts
  rw [List.take_add_one, List.getElem?_eq_getElem (by rw [List.length_finRange]; exact h), List.getElem_finRange]
  rfl
theorem firsts_all (N : Nat) : firsts N N = List.finRange N := by unfold firsts; rw [List.take_of_length_le (by rw [List.length_finRange]; exact Nat.le_refl _)]
set_option maxRecDepth 100000 in
set_option maxHeartbeats 4000000 in
theorem iter_in (m l Bs n0 : Nat) (a : Option Addr) (cap : Nat) (ls : List C) (p : Int) (hp : p = 1 ∨ p = 2) (hgood : ∀ c ∈ ls, c.good p = true) (hl : ls.length ≤ maxLen) (hab : ∀ ad, a = some ad → 0 < ls.length → ad.block < n0) (J : List (Fin ls.length) → World → Prop) (W : World)
    (hJab : AbideIt W.heap.size J) (hY : ∀ pre x W1, J pre W1 → pre.length < ls.length → YieldAt Fence.wide (m - 1) Try.prog l (encI ls x) W1 fun e W' => e = .returned (.bool true) ∧ J (pre ++ [x]) W' ∧ Kp n0 W1 W')
    (hBs : W.cell? ⟨Bs, 0, none⟩ = some (.slice a ls.length cap)) (hc : Cs W a ls) (hn0 : n0 ≤ W.heap.size) (h0 : J [] W) :
    CallsIn Fence.wide m Try.prog 39 #[.func (.yield l) #[] #[], .pointer (some ⟨Bs, 0, none⟩)] W fun e W' => (∃ v, e = .returned v) ∧ ∃ xs, xs = List.finRange ls.length ∧ J xs W' := by
  obtain ⟨N, hN⟩ : ∃ N, N = ls.length := ⟨_, rfl⟩
  refine callsIn_of_wp Try.func39 rfl trivial ?_ rfl
  simp only [Try.ntmps39, List.size_toArray, List.length_cons, List.length_nil, Nat.reduceAdd, Nat.reduceSub, Array.replicate_succ, Array.replicate_zero, List.push_toArray, List.append_toArray, List.nil_append, List.cons_append]
  have hbs := World.block_lt_of_cell? _ _ hBs
  have hcap : cap = cap := rfl
  gi_wp2
  obtain ⟨r, hr⟩ : ∃ r, r = W.heap.size := ⟨_, rfl⟩
  rw [← hr]
  generalize hwa : W.alloc (Obj.cells #[.int .i64 0, .int .i64 0, .int .i64 0, .int .i64 0, .bool false, .string ⟨#[]⟩, .int .i64 0, .int .i64 0] 27) = wa
  have H0 : Hid (IsC wa r C.zero) := by rw [← hwa, hr]; exact IsC.new W C.zero
  have K0 : Hid (Keep (fun _ => False) W wa) := by rw [← hwa]; exact Keep.alloc _ _ _
  have HJ0 : Hid (J (firsts ls.length 0) wa) := hJab.keep h0 K0.out
  have HB0 : Hid (Below n0 W wa) := K0.out.below hn0 (fun _ h => h.elim)
  have HR : Hid (r = W.heap.size) := hr
  have HC := Lib.hid hc
  have HY := Lib.hid hY
  clear hr hwa hY hc h0 hBs hbs hcap K0
  unfold maxLen at hl
  gi_loopw [8] (fun i wr => ∃ k : Nat, k ≤ ls.length ∧ i = .int .i64 k ∧ IsC wr r (C.join (ls.take k)) ∧ J (firsts ls.length k) wr ∧ Below n0 W wr ∧ r < wr.heap.size) (fun i _ => ls.length - (intOf i).toNat)
  case atStart => exact ⟨0, Nat.zero_le _, rfl, H0.out, HJ0.out, HB0.out, H0.out.lt⟩
  case round =>
    obtain ⟨k, hk, rfl, hst, hJs, hbw, hrl⟩ := hrel
    have HST := Lib.hid hst
    have HJS := Lib.hid hJs
    have HBW := Lib.hid hbw
    clear H0 HJ0 HB0 hst hJs hbw
    by_cases hlt : k < ls.length
    · have hx := getD_at hlt
      obtain ⟨x, hxe⟩ : ∃ x, ls.getD k C.zero = x := ⟨_, rfl⟩
      rw [hxe] at hx
      obtain ⟨b, o, rfl, d0, d1, d2, d3, d4, d5, d6, d7⟩ := Kp.cs HBW.out (fun ad e => hab ad e (by omega)) HC.out k x hx
      obtain ⟨wx, hwx⟩ : ∃ wx, wr.alloc (Obj.cells #[.int .i64 x.n, .int .i64 x.s, .int .i64 x.v0, .int .i64 x.v1, .bool x.gone, .string x.value, .int .i64 x.d0, .int .i64 x.d1] 27) = wx := ⟨_, rfl⟩
      obtain ⟨q, hq⟩ : ∃ q, wr.heap.size = q := ⟨_, rfl⟩
      have kx : Keep (fun _ => False) wr wx := by rw [← hwx]; exact Keep.alloc _ _ _
      have HQ : Hid (IsC wx q x) := by rw [← hwx, ← hq]; exact IsC.new wr x
      have HJ1 : J (firsts ls.length k) wx := hJab.keep HJS.out kx
      have HST1 := Lib.hid (HST.out.keep0 kx)
      have HBW1 : Hid (Below n0 W wx) := HBW.out.trans (kx.below (Nat.le_trans hn0 HBW.out.size) (fun _ h => h.elim))
      obtain ⟨fn, tmps, assign, body, hy, hR⟩ := HY.out _ ⟨k, hlt⟩ wx HJ1 (by rw [firsts_length (by omega)]; exact hlt)
      unfold encI at hy
      dsimp only at hy
      have gy := join_good hp hgood k (by omega)
      have HSTEP : Hid (C.join (ls.take (k + 1)) = (C.join (ls.take k)).two x) := join_step ls k x hx
      generalize C.join (ls.take k) = y at *
      obtain ⟨z, hz⟩ : ∃ z, z = y.two x := ⟨_, rfl⟩
      have A12 : Hid (∀ W b, W.heap[b]? = some (.cells #[.int .i64 y.n, .int .i64 y.s, .int .i64 y.v0, .int .i64 y.v1, .bool y.gone, .string y.value, .int .i64 y.d0, .int .i64 y.d1, .int .i64 x.n, .int .i64 x.s, .int .i64 x.v0, .int .i64 x.v1, .bool x.gone, .string x.value, .int .i64 x.d0, .int .i64 x.d1] 27 (0, 0)) → Calls Try.prog 12 #[.slice (some ⟨b, 0, none⟩) 2 2] W fun e w' => e = .returned (.agg #[.int .i64 z.n, .int .i64 z.s, .int .i64 z.v0, .int .i64 z.v1, .bool z.gone, .string z.value, .int .i64 z.d0, .int .i64 z.d1]) ∧ Keep (fun _ => False) W w') := fun W b h => by rw [hz, ← C.join_two gy]; exact join_c2 y x b W h
      rw [← hz] at HSTEP
      have hlt' : (k : Int) < ls.length := by omega
      have hp0 : (0 : Int) ≤ k := by omega
      obtain ⟨y0, y1, y2, y3, y4, y5, y6, y7⟩ := HST1.out.cells
      clear hx hxe hz gy HJ1
      gi_wp2
      refine ⟨fun h => (by cases h), hR.mono ?_⟩
      clear hR hy HY
      rintro e W3 ⟨rfl, hJ3, hk3⟩
      have HJ3 := Lib.hid hJ3
      have HST3 := Lib.hid (hk3.isC HST1.out)
      have HQ3 := Lib.hid (hk3.isC HQ.out)
      have HBW3 : Hid (Below n0 W W3) := HBW1.out.trans hk3.1
      have HL3 : Hid (r < W3.heap.size) := HST3.out.lt
      clear hJ3 hk3 y0 y1 y2 y3 y4 y5 y6 y7 d0 d1 d2 d3 d4 d5 d6 d7 hwx
      obtain ⟨y0, y1, y2, y3, y4, y5, y6, y7⟩ := HST3.out.cells
      obtain ⟨q0, q1, q2, q3, q4, q5, q6, q7⟩ := HQ3.out.cells
      obtain ⟨qs, hqs⟩ : ∃ qs, W3.heap.size = qs := ⟨_, rfl⟩
      gi_wp2
      refine ⟨trivial, fun h => (by cases h), ?_⟩
      with_reducible refine (callsIn_wide.2 (A12.out _ _ (new_at _ _ _ _ hqs.symm))).mono ?_
      rintro e w5 ⟨rfl, hk5⟩
      have HK5 := Lib.hid ((Keep.alloc (fun _ => False) W3 _).trans hk5)
      have HST5 := Lib.hid (HST3.out.keep0 HK5.out)
      clear hk5 y0 y1 y2 y3 y4 y5 y6 y7 q0 q1 q2 q3 q4 q5 q6 q7
      obtain ⟨y0, y1, y2, y3, y4, y5, y6, y7⟩ := HST5.out.cells
      have fz := HST5.out.free
      gi_wp2
      go_roundw
      case rel =>
        have k8 := Keep.set8 w5 r z
        exact ⟨k + 1, by omega, by go_num, by rw [HSTEP.out]; exact HST5.out.set z, by rw [firsts_succ hlt]; exact hJab.turn (hJab.keep HJ3.out HK5.out) HST5.out (by rw [HR.out]; exact Nat.le_refl _) k8,
          (HBW3.out.trans (HK5.out.below (Nat.le_trans hn0 HBW3.out.size) (fun _ h => h.elim))).trans (k8.below (Nat.le_trans hn0 (HBW3.out.trans (HK5.out.below (Nat.le_trans hn0 HBW3.out.size) (fun _ h => h.elim))).size) (fun i e => by rw [e, HR.out]; exact hn0)), Nat.lt_of_lt_of_le HL3.out (Nat.le_trans HK5.out.size k8.size)⟩
      case measure => simp [intOf] <;> omega
    · obtain rfl : k = ls.length := by omega
      gi_wp2
      go_end0
      exact ⟨⟨_, rfl⟩, _, rfl, by rw [← firsts_all]; exact HJS.out⟩
end Go.Proofs.Ytfoklfifgmacfaa
