/- join.Needed, walked: it returns a row of the numbers that are needed. -/
import Derived.RangeFuncBox
import Derived.Maps.AppendAt
import Derived.Test.YtfoklfifgmacfaaE4
namespace Go.Proofs.Ytfoklfifgmacfaa
open Go.RowKit Go.Shelf
attribute [local go_sem] Oper.semAt_some
theorem info3i : (Try.prog.info? 3).map (fun i => (i.zero, i.size, i.bytes)) = some (some (.int .i64 0), 1, 8) := by kernel_rfl
/-- The needed ones among some numbers. -/
def pick (ls : List C) (pre : List (Fin ls.length)) : List Nat := (pre.filter fun i => !(ls.getD i.val C.zero).within (C.join (ls.take i.val))).map Fin.val
theorem pick_hit {ls : List C} (pre : List (Fin ls.length)) {x : Fin ls.length} (h : (ls.getD x.val C.zero).within (C.join (ls.take x.val)) = false) : pick ls (pre ++ [x]) = pick ls pre ++ [x.val] := by
  unfold pick; rw [List.filter_append, List.map_append]; simp only [List.filter_cons, h]; rfl
theorem pick_miss {ls : List C} (pre : List (Fin ls.length)) {x : Fin ls.length} (h : (ls.getD x.val C.zero).within (C.join (ls.take x.val)) = true) : pick ls (pre ++ [x]) = pick ls pre := by
  unfold pick; rw [List.filter_append, List.map_append]; simp only [List.filter_cons, h]; simp
theorem pick_len {ls : List C} (pre : List (Fin ls.length)) : (pick ls pre).length ≤ pre.length := by unfold pick; rw [List.length_map]; exact List.length_filter_le _ _
theorem pick_firsts (ls : List C) : ∀ k, k ≤ ls.length → pick ls (firsts ls.length k) = need ls k := by
  intro k
  induction k with
  | zero => intro _; rfl
  | succ k ih =>
    intro hk
    rw [firsts_succ (show k < ls.length by omega), need]
    by_cases hw : (ls.getD k C.zero).within (C.join (ls.take k)) = true
    · rw [pick_miss _ (by exact hw), ih (by omega), if_pos hw]
    · rw [pick_hit _ (by simpa using hw), ih (by omega), if_neg hw]
theorem pick_all (ls : List C) : pick ls (List.finRange ls.length) = need ls ls.length := by rw [← firsts_all, pick_firsts ls _ (Nat.le_refl _)]
set_option maxRecDepth 100000 in
set_option maxHeartbeats 4000000 in
theorem grown_c (a : Option Addr) (n cap : Nat) (w : World) : Calls Try.prog 32 #[.slice a n cap] w fun e w' => e = .returned (.func (.func 39) #[] #[.pointer (some ⟨w.heap.size, 0, none⟩)]) ∧ w' = w.alloc (.cells #[.slice a n cap] 28) := by
  refine (callsIn_wide (n := 3)).1 ?_
  refine callsIn_of_wp Try.func32 rfl trivial ?_ rfl
  simp only [Try.ntmps32, List.size_toArray, List.length_cons, List.length_nil, Nat.reduceAdd, Nat.reduceSub, Array.replicate_succ, Array.replicate_zero, List.push_toArray, List.append_toArray, List.nil_append, List.cons_append]
  gi_wp2
  go_ret
  exact ⟨rfl, rfl⟩
/-- What Needed holds between two rounds. -/
def NI (w0 : World) (ls : List C) (a : Option Addr) (cap : Nat) (L B : Nat) (pre : List (Fin ls.length)) (W : World) : Prop :=
  (Boxed W L 28 (.slice a ls.length cap) ∧ ∃ v, Boxed W B 46 v ∧ W.ownsRow w0.heap.size 3 1 v (pick ls pre).length ((pick ls pre).map fun (i : Nat) => Value.int .i64 (i : Int))) ∧ Below w0.heap.size w0 W
theorem NI.abide (w0 : World) (ls : List C) (a : Option Addr) (cap : Nat) (L B B' : Nat) (h0 : w0.heap.size ≤ B') : AbideAll B' (NI w0 ls a cap L B) := by
  rintro s X Y row ⟨⟨hL, v, hv, hr⟩, hb⟩ hg hrow
  have hne : ∀ k cs t fr, X.heap[k]? = some (.cells cs t fr) → t ≠ 27 → some k ≠ row := by
    intro k cs t fr hk ht e
    obtain ⟨_, o, ho, hc⟩ := hrow k e.symm
    rw [hk] at ho; cases ho
    rcases hc with hc | ⟨cs', fr', hc⟩
    · cases hc
    · cases hc; exact ht rfl
  refine ⟨⟨hL.kept hg (hne _ _ _ _ hL (by decide)), v, hv.kept hg (hne _ _ _ _ hv (by decide)), hr.kept hg ?_⟩, hb.grown hg hb.size (fun k e => Nat.le_trans h0 (hrow k e).1)⟩
  rcases hr.2 with ⟨rfl, _⟩ | ⟨g, cap, cur, rfl, _, hgb, _⟩
  · exact .inl rfl
  · exact .inr fun e => hne _ _ _ _ hgb (by decide) (by simpa [Value.ownBlock] using e)
theorem kp_put {n0 : Nat} (W : World) (l : Nat) (o o' : Obj) (hl : n0 ≤ l) (h : W.heap[l]? = some o) (ho : o.isCells = false) : Kp n0 W (W.putObj l o') := by
  have hlt := (Array.getElem?_eq_some_iff.1 h).1
  refine ⟨(Below.refl n0 W).grown (grownBy_putObj' W l o') (by omega) (fun k e => by cases e; exact hl), ?_⟩
  intro b cs fr hb
  by_cases e : b = l
  · subst e; rw [h] at hb; cases hb; cases ho
  · rw [World.putObj_heap_other e]; exact hb
theorem kp_keep {n0 : Nat} {W W' : World} (hn : n0 ≤ W.heap.size) (k : Keep (fun _ => False) W W') : Kp n0 W W' :=
  ⟨k.below hn (fun _ h => h.elim), fun _ _ _ hb => k.heap hb (fun h => h)⟩
theorem NI.keep {w0 : World} {ls : List C} {a : Option Addr} {cap L B : Nat} {pre : List (Fin ls.length)} {W W' : World} (h : NI w0 ls a cap L B pre W) (k : Keep (fun _ => False) W W') : NI w0 ls a cap L B pre W' :=
  NI.abide w0 ls a cap L B w0.heap.size (Nat.le_refl _) _ _ _ none h ⟨k.os, k.tape, k.output, k.size, fun i hi _ => k.block i hi (fun h => h)⟩ (fun r e => by cases e)
theorem kf_keep {W W' : World} (B : Nat) (k : Keep (fun _ => False) W W') : KeepsFrom B W W' :=
  ⟨k.size, fun _ _ _ hi _ => k.heap hi (fun h => h)⟩
theorem kp_append {W w1 : World} {n0 B k : Nat} {v v' : Value} {xs : List Value} {tmp : Obj} (hv : Boxed W B 46 v) (hrow : W.ownsRow n0 3 1 v k xs) (hgrow : (W.alloc tmp).grownBy w1 v.ownBlock) (hb2 : Below n0 W (w1.setCell ⟨B, 0, none⟩ v')) : Kp n0 W (w1.setCell ⟨B, 0, none⟩ v') := by
  refine ⟨hb2, fun b cs fr hb => ?_⟩
  have hlt := (Array.getElem?_eq_some_iff.1 hb).1
  have h1 : (W.alloc tmp).heap[b]? = some (.cells cs 27 fr) := (Below.heap_alloc _ _ _ hlt).trans hb
  have hne : some b ≠ v.ownBlock := by
    rcases hrow.2 with ⟨rfl, _⟩ | ⟨g, c, cur, rfl, _, hgb, _⟩
    · intro e; cases e
    · intro e
      obtain rfl : b = g := by simpa [Value.ownBlock] using e
      rw [hb] at hgb; cases hgb
  have h2 := (hgrow.block b (by simp; omega) hne).trans h1
  have h3 : b < w1.heap.size := (Array.getElem?_eq_some_iff.1 h2).1
  refine ((grownBy_setCell' w1 B v').block b h3 (fun e => ?_)).trans h2
  obtain rfl : b = B := by simpa using e
  rw [show W.heap[b]? = _ from hv] at hb; cases hb
set_option maxRecDepth 100000 in
set_option maxHeartbeats 4000000 in
theorem needed_any (ls : List C) (p : Int) (hp : p = 1 ∨ p = 2) (hgood : ∀ c ∈ ls, c.good p = true) (hl : ls.length ≤ 1000) (a : Option Addr) (cap : Nat) (w : World) (hc : Cs w a ls) :
    Calls Try.prog 19 #[.slice a ls.length cap] w fun e w' => ∃ v, e = .returned v ∧ w'.ownsRow w.heap.size 3 1 v (need ls ls.length).length ((need ls ls.length).map fun (i : Nat) => Value.int .i64 (i : Int)) ∧ Keep (fun _ => False) w w' := by
  refine (callsIn_wide (n := 9)).1 ?_
  obtain ⟨i0, hi, hz0, hz1, hz2⟩ := info_parts info3i
  refine callsIn_of_wp_marks Try.func19 rfl trivial ?_ rfl
  simp only [Try.ntmps19, List.size_toArray, List.length_cons, List.length_nil, Nat.reduceAdd, Nat.reduceSub, Array.replicate_succ, Array.replicate_zero, List.push_toArray, List.append_toArray, List.nil_append, List.cons_append]
  gi_wp2_with (refine ⟨trivial, ?_⟩; with_reducible refine (callsIn_wide.2 (grown_c _ _ _ _)).mono ?_; rintro e w' ⟨rfl, rfl⟩)
  obtain ⟨w3, hw3⟩ : ∃ w3, ((w.alloc (Obj.cells #[Value.slice a ls.length cap] 28)).alloc (Obj.cells #[Value.slice none 0 0] 46)).alloc (Obj.cells #[Value.slice a ls.length cap] 28) = w3 := ⟨_, rfl⟩
  have hs3 : w3.heap.size = w.heap.size + 3 := by rw [← hw3]; simp
  have bL : Boxed w3 w.heap.size 28 (.slice a ls.length cap) := by rw [← hw3]; exact ((Boxed.new w 28 _).alloc _).alloc _
  have bO : Boxed w3 (w.heap.size + 1) 46 (.slice none 0 0) := by
    rw [← hw3]; have h := Boxed.new (w.alloc (Obj.cells #[Value.slice a ls.length cap] 28)) 46 (.slice none 0 0); rw [World.size_alloc] at h; exact h.alloc _
  have bG : Boxed w3 (w.heap.size + 2) 28 (.slice a ls.length cap) := by
    rw [← hw3]; have h := Boxed.new ((w.alloc (Obj.cells #[Value.slice a ls.length cap] 28)).alloc (Obj.cells #[Value.slice none 0 0] 46)) 28 (.slice a ls.length cap); rw [World.size_alloc, World.size_alloc] at h; exact h
  have hB0 : Below w.heap.size w w3 := by rw [← hw3]; exact ((((Below.refl _ w).alloc (Nat.le_refl _) _).alloc (by simp) _).alloc (by simp; omega) _)
  simp only [hw3]
  have hab : ∀ ad, a = some ad → 0 < ls.length → ad.block < w.heap.size := by
    intro ad e hpos
    obtain ⟨b, o, e', h0, _⟩ := hc 0 _ (getD_at hpos)
    rw [e] at e'; cases e'
    exact World.block_lt_of_cell? _ _ h0
  have hcs : ∀ W, Below w.heap.size w W → Cs W a ls := by
    intro W hW i x hx
    have hpos : 0 < ls.length := by have := (List.getElem?_eq_some_iff.1 hx).1; omega
    exact Kp.cs hW (fun ad e => hab ad e hpos) hc i x hx
  refine range_law (F := Fence.wide) (P := Try.prog) rfl (by decide) (gf := 39) (lb := #[.pointer (some ⟨w.heap.size + 2, 0, none⟩)]) rfl trivial (enters_of Try.func39 (by kernel_rfl) rfl)
    (encs := encI ls) (Kp := Kp w.heap.size) (S := fun xs => xs = List.finRange ls.length) (N := ls.length)
    (fun l J W hW hJ hY h0 => iter_in _ l (w.heap.size + 2) w.heap.size a cap ls p hp hgood (by unfold maxLen; omega) hab J W hJ hY ((hW.cell (p := ⟨w.heap.size + 2, 0, none⟩) (by rw [hs3]; simp)).trans bG.cell) (hcs W (hB0.trans (hW.mono (by rw [hs3]; omega)))) (by have := hW.size; omega) h0)
    (fun h k => h.trans k) (fun W l o o' h1 h2 h3 => kp_put W l o o' (by omega) h2 h3) (fun _ => rfl)
    (NI w ls a cap w.heap.size (w.heap.size + 1)) (NI.abide w ls a cap _ _ _ (by omega)) ⟨⟨bL, _, bO, World.ownsRow_nil _ _ _ _⟩, hB0⟩
    (fun x a' W => ∃ Bx, IsC W Bx (C.join (ls.take x.val)) ∧ a' = { tmps := #[.slice a ls.length cap, .pointer (some ⟨w.heap.size, 0, none⟩), .pointer (some ⟨w.heap.size + 1, 0, none⟩), .int .i64 ((x.val : Nat) : Int), .pointer (some ⟨Bx, 0, none⟩), .slice a ls.length cap, .func (.func 39) #[] #[.pointer (some ⟨w.heap.size + 2, 0, none⟩)], .int .i64 ((x.val : Nat) : Int), .agg #[.int .i64 (C.join (ls.take x.val)).n, .int .i64 (C.join (ls.take x.val)).s, .int .i64 (C.join (ls.take x.val)).v0, .int .i64 (C.join (ls.take x.val)).v1, .bool (C.join (ls.take x.val)).gone, .string (C.join (ls.take x.val)).value, .int .i64 (C.join (ls.take x.val)).d0, .int .i64 (C.join (ls.take x.val)).d1], undef, undef, undef, undef, undef, undef, undef, undef, undef, undef, undef, undef], defers := [] })
    ?ax ?assign ?body ?done
  case ax =>
    rintro x a' W l o o' _ h2 h3 ⟨Bx, hc, e⟩
    refine ⟨Bx, ?_, e⟩
    have : Bx ≠ l := by rintro rfl; rw [show W.heap[Bx]? = _ from hc] at h2; cases h2; cases h3
    exact (World.putObj_heap_other this).trans hc
  case assign =>
    intro l pre x W K hI hK
    unfold encI
    dsimp only at hK ⊢
    generalize C.join (ls.take x.val) = y at *
    obtain ⟨w0, hw0⟩ : ∃ w0, W.alloc (Obj.cells #[.int .i64 0, .int .i64 0, .int .i64 0, .int .i64 0, .bool false, .string ⟨#[]⟩, .int .i64 0, .int .i64 0] 27) = w0 := ⟨_, rfl⟩
    obtain ⟨q, hq⟩ : ∃ q, W.heap.size = q := ⟨_, rfl⟩
    have hn : IsC w0 q C.zero := by rw [← hw0, ← hq]; exact IsC.new W C.zero
    have hk0 : Keep (fun _ => False) W w0 := by rw [← hw0]; exact Keep.alloc _ _ _
    have hfr := hn.free
    obtain ⟨z0, z1, z2, z3, z4, z5, z6, z7⟩ := hn.cells
    gi_wp2
    have k1 := Keep.set8 w0 q y
    have k0 := hk0.step k1 (fun i e => .inr (by rw [e, hq]; exact Nat.le_refl _))
    exact hK _ _ (kf_keep _ k0) (kp_keep (by have := hI.2.size; omega) k0) (hI.keep k0) ⟨_, hn.set y, rfl⟩
  case body =>
    rintro l pre ⟨k, hlt'⟩ a' W ⟨⟨hL, v, hv, hrow⟩, hB⟩ ⟨Bx, hx, rfl⟩ hlt
    dsimp only at hx
    have hpl := pick_len pre
    have hxe := getD_at hlt'
    obtain ⟨c, hce⟩ : ∃ c, ls.getD k C.zero = c := ⟨_, rfl⟩
    rw [hce] at hxe
    obtain ⟨b, o, rfl, d0, d1, d2, d3, d4, d5, d6, d7⟩ := hcs W hB k c hxe
    have hhit := pick_hit (ls := ls) pre (x := ⟨k, hlt'⟩)
    have hmiss := pick_miss (ls := ls) pre (x := ⟨k, hlt'⟩)
    dsimp only at hhit hmiss ⊢
    rw [hce] at hhit hmiss
    generalize C.join (ls.take k) = y at *
    have HW : Hid (∀ W, Calls Try.prog 14 #[.agg #[.int .i64 c.n, .int .i64 c.s, .int .i64 c.v0, .int .i64 c.v1, .bool c.gone, .string c.value, .int .i64 c.d0, .int .i64 c.d1], .agg #[.int .i64 y.n, .int .i64 y.s, .int .i64 y.v0, .int .i64 y.v1, .bool y.gone, .string y.value, .int .i64 y.d0, .int .i64 y.d1]] W fun e w' => e = .returned (.bool (c.within y)) ∧ Keep (fun _ => False) W w') := fun W => within_c c y W
    obtain ⟨y0, y1, y2, y3, y4, y5, y6, y7⟩ := hx.cells
    have hcL := hL.cell
    have hp0 : (0 : Int) ≤ k := by omega
    have hlti : (k : Int) < ls.length := by omega
    have HH := Lib.hid hhit
    have HM := Lib.hid hmiss
    have HL := Lib.hid hl
    clear hhit hmiss hce hxe hc hcs hab bL bG bO hw3 hB0
    have hmx : Try.prog.follows .mixedOrders = true := by kernel_rfl
    gi_wp2
    gi_region_with_o (refine ⟨trivial, ?_⟩; with_reducible refine (CallsIn.inRound l (callsIn_wide.2 (HW.out _))).mono ?_; rintro e w5 ⟨rfl, hk5⟩; have HK5 := Lib.hid hk5; clear hk5)
    all_goals
      have k5 : Keep (fun _ => False) W w5 := (Keep.drewN _ W 1).trans HK5.out
      have hN5 := NI.keep (⟨⟨hL, v, hv, hrow⟩, hB⟩ : NI w ls (some ⟨b, o, none⟩) cap w.heap.size (w.heap.size + 1) pre W) k5
      clear hL hv hrow HK5 y0 y1 y2 y3 y4 y5 y6 y7 d0 d1 d2 d3 d4 d5 d6 d7 hx hcL hmx HW
      obtain ⟨⟨hL, v, hv, hrow⟩, hB5⟩ := hN5
      have hc5 := hv.cell
      have hsz := hB.size
      have hk5 := k5.size
      have hm1 : (pick ls pre).length + 1 ≤ maxLen := by unfold maxLen; omega
      have hm2 : ((pick ls pre).length + 1) * 8 ≤ 140737488355328 := by omega
      have hm3 : w.heap.size ≤ (w5.alloc (Obj.cells #[Value.int .i64 (k : Int)] 3)).heap.size := by simp; omega
      cases hcw : c.within y with
      | true =>
        gi_wp2
        exact ⟨kf_keep _ k5, kp_keep hB.size k5, ⟨hL, v, hv, by rw [HM.out hcw]; exact hrow⟩, hB5⟩
      | false =>
        gi_wp2_with (gi_at_builtin; refine wpListIn_append_own _ rfl _ _ 46 rfl w.heap.size 3 i0 (.int .i64 0) 1 8 Try.underlying46 hi hz0 hz1 hz2 rfl (by decide) v _ _ rfl (hrow.alloc _) ⟨w5.heap.size, 0, none⟩ 1 1 [.int .i64 (k : Int)] rfl rfl (cell_one_new _ _ _) (by simp [Value.oneCell']) hm1 hm2 hm3 ?_; intro v' w1 hown' hgrow _; obtain ⟨g', cap', rfl⟩ := ownsRow_succ hown'; obtain ⟨hv1, hv2, hr2, hk2, hb2⟩ := hv.appended (by decide) hrow (Nat.le_trans hsz hk5) (Nat.le_succ _) hown' hgrow; have hc1 := hv1.cell; have hf1 := hv1.frozen)
        have hLe := ((hL.alloc (Obj.cells #[Value.int .i64 (k : Int)] 3)).kept hgrow (hL.not_row (by decide) hrow)).other (B' := w.heap.size + 1) (by omega) (.slice (some ⟨g', 0, none⟩) ((pick ls pre).length + 1) cap')
        have hpick := HH.out hcw
        exact ⟨(kf_keep _ k5).trans (hk2.from _), (kp_keep hB.size k5).trans (kp_append hv hrow hgrow hb2), ⟨hLe, _, hv2, by rw [hpick, List.length_append, List.map_append]; exact hr2⟩, hB5.trans hb2⟩
  case done =>
    rintro D ys W hD rfl ⟨⟨hL, v, hv, hrow⟩, hB⟩ hK
    obtain ⟨a', n', c', rfl⟩ : ∃ a' n' c', v = .slice a' n' c' := by
      rcases hrow.2 with ⟨rfl, _⟩ | ⟨g, cp, cur, rfl, _⟩
      · exact ⟨_, _, _, rfl⟩
      · exact ⟨_, _, _, rfl⟩
    have hc5 := hv.cell
    have hf5 := hv.frozen
    have hv2 := hv.set (.slice a' n' c')
    have hr2 := hrow.kept (grownBy_setCell' W (w.heap.size + 1) (.slice a' n' c')) (.inr (hv.not_row (by decide) hrow).symm)
    have hK2 := (KeepsOthers.setCell W ⟨w.heap.size + 1, 0, none⟩ (.slice a' n' c')).same D _ hK rfl
    have hB2 := hB.trans ((Below.refl w.heap.size W).setCell (p := ⟨w.heap.size + 1, 0, none⟩) (by simp) (.slice a' n' c'))
    have hr := ownsRow_putObj hr2 (.deferred none) hK2 rfl
    have hb := hB2.trans ((Below.refl w.heap.size _).grown (grownBy_putObj' (W.setCell ⟨w.heap.size + 1, 0, none⟩ (.slice a' n' c')) D (.deferred none)) (by have := hB2.size; omega) (fun k e => by cases e; omega))
    have hv3 := hv2.kept (grownBy_putObj' (W.setCell ⟨w.heap.size + 1, 0, none⟩ (.slice a' n' c')) D (.deferred none)) (by intro e; cases e; omega)
    have hc3 := hv3.cell
    rw [pick_all] at hr
    gi_wp2
    refine ⟨by simp, .inl ⟨_, _, rfl, run_takeDeferred hK2, ?_⟩⟩
    refine ⟨.slice a' n' c', ?_, _, rfl, hr, ⟨hb.os, hb.tape, hb.output, hb.size, fun k hk _ => hb.block k hk⟩⟩
    have e : Try.f19.results = #[.cell 2 46] := rfl
    simp only [results, e]
    simp [Sem.run_bind, Result.andThen]
    generalize (W.setCell ⟨w.heap.size + 1, 0, none⟩ (.slice a' n' c')).putObj D (Obj.deferred none) = W4 at hc3 ⊢
    go_simp

