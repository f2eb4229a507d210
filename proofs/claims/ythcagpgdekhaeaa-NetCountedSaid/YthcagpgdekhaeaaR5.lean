/- The reference's Send, walked. -/
import Derived.Test.YthcagpgdekhaeaaR4
namespace Go.Proofs.Ythcagpgdekhaeaa
open Go.RowKit
theorem wpMoves_move {P : Program} {ops : Array Oper} {L : Act → Prop} {a : Act} {o : Oper} {rest : List Oper} (x : Operand) (v : Value) (ho : o.op = .move x) (hw : Region.wanted o (yielded ops a.tmps) = true) (hv : a.eval x = v) (h : wpMoves P ops L rest (a.put o.dst v)) : wpMoves P ops L (o :: rest) a := by
  unfold wpMoves
  rw [if_pos hw]
  exact ⟨v, fun w => by rw [← hv]; exact BigFrame.run_move x ho w, h⟩
theorem wp_region_tail2 {P : Program} {K : Act → World → Prop} {Q : Exit → Act → World → Prop} {a0 : Act} {id : Nat} {w : World} {l : List Oper} (m n : Nat) (F : Nat → Option (Value → World → Prop)) (hm : P.follows .mixedOrders = true) (hok : okT l.toArray m n = true) (hFm : ∀ j f, F j = some f → m ≤ j)
    (hF : ∀ i f, F i = some f → ∀ v w w', Keep (fun _ => False) w w' → f v w → f v w')
    (h : wpMoves P l.toArray (fun a => ∀ fv G, (∀ w w', Keep (fun _ => False) w w' → G w → G w') → WpF P l.toArray w F fv G (fun a' => ∀ w', Cls w (allFacts n F fv) w' → wpList P l.toArray (Exit.then K fun _ _ _ => False) (l.drop n) a' w') m ((l.take n).drop m) a) (l.take m) a0) : (Code.region id l.toArray true).wp P (Exit.then K Q) a0 w :=
  Code.wp_mono (fun e a w he => by
    cases e
    case normal => exact he
    all_goals exact he.elim) (wp_region_tail m n F hm hok hFm hF (fun _ _ _ _ _ h => h) h)
theorem tab_ge {m : Nat} {l : List (Nat × (Value → World → Prop))} (h : ∀ p ∈ l, m ≤ p.1) : ∀ j f, tab l j = some f → m ≤ j := by
  intro j f hf
  unfold tab at hf
  rw [Option.map_eq_some_iff] at hf
  obtain ⟨p, hp, rfl⟩ := hf
  have h1 := List.find?_some hp
  have h2 := h p (List.mem_of_find?_eq_some hp)
  simp only [beq_iff_eq] at h1
  omega
def FNew0 (r : Nat) (v : Value) (w : World) : Prop := ∃ g, v = .slice (some ⟨g, 0, none⟩) 0 0 ∧ r ≤ g ∧ w.heap[g]? = some (.cells #[] 34 (0, 0))
theorem FNew0.keep (r : Nat) : Lasts (FNew0 r) := fun _ _ _ k ⟨g, h1, h2, h3⟩ => ⟨g, h1, h2, k.heap h3 (fun h => h)⟩
def FCopy (r : Nat) (ps : List Pk) (v : Value) (w : World) : Prop := w.ownsRow r 34 2 v ps.length (flat ps)
theorem FCopy.keep (r : Nat) (ps : List Pk) : Lasts (FCopy r ps) := fun _ _ _ k h => ownsRow_keep' h k (fun _ _ h => h)
def FOne (r : Nat) (f : Int) (s : ByteArray) (v : Value) (w : World) : Prop := ∃ g, v = .slice (some ⟨g, 0, none⟩) 1 1 ∧ r ≤ g ∧ w.heap[g]? = some (.cells #[.int .i64 f, .string s] 34 (0, 0))
theorem FOne.keep (r : Nat) (f : Int) (s : ByteArray) : Lasts (FOne r f s) := fun _ _ _ k ⟨g, h1, h2, h3⟩ => ⟨g, h1, h2, k.heap h3 (fun h => h)⟩
theorem RefAt.put {rb base : Nat} {most : Int} {v : Value} {ps ps' : List Pk} {c0 c1 c2 c3 : Int} {w w2 : World} {r : Nat} {v2 : Value} (h : RefAt w rb base most v ps c0 c1 c2 c3) (k : Keep (fun _ => False) w w2) (hr : w.heap.size ≤ r) (hb : base ≤ w.heap.size) (ho : w2.ownsRow r 34 2 v2 ps'.length (flat ps')) :
    RefPost rb base most v ps' c0 c1 c2 c3 w (w2.setCell ⟨rb, 1, none⟩ v2) := by
  have hrb : rb < w.heap.size := lt_of_block h.block
  have hB := k.heap h.block (fun h => h)
  refine ⟨v2, ⟨heap_setCell_at hB, ?_⟩, ?_, (k.mono (fun _ h => h.elim)).trans (Keep.setCell _ _ rfl)⟩
  · exact ownsRow_base (ownsRow_keep' ho (Keep.setCell (S := fun j => j = rb) _ _ rfl) (fun j hj e => by
      have := (ho.lt j hj).1
      omega)) (Nat.le_trans hb hr)
  · exact fun g hg => .inr (Nat.le_trans hr (ho.lt g hg).1)
theorem ref_send_arg (rb : Nat) (f : Int) (a : Option Addr) (n cap : Nat) (w : World) (hf : f ≠ 1 ∧ f ≠ 2) :
    Calls Try.prog 30 #[.pointer (some ⟨rb, 0, none⟩), .int .i64 f, .slice a n cap] w fun e w' => e = .returned (.int .i64 2) ∧ w' = w := by
  have e1 : (f == 1) = false := beq_eq_false_iff_ne.2 hf.1
  have e2 : (f == 2) = false := beq_eq_false_iff_ne.2 hf.2
  have e3 : (f != 1) = true := by simp [bne, e1]
  have e4 : (f != 2) = true := by simp [bne, e2]
  clear hf
  go_enter Try.func30, Try.ntmps30
  go_wp2_with fail
  go_ret
  exact ⟨rfl, rfl⟩
theorem ref_send_long (rb : Nat) (f : Int) (a : Option Addr) (n cap : Nat) (w : World) (hf : f = 1 ∨ f = 2) (hn : 1048592 < n) :
    Calls Try.prog 30 #[.pointer (some ⟨rb, 0, none⟩), .int .i64 f, .slice a n cap] w fun e w' => e = .returned (.int .i64 3) ∧ w' = w := by
  have hn' : (1048592 : Int) < n := by omega
  rcases from_ok hf with ⟨e1, e2⟩ | ⟨e1, e2⟩
  all_goals
    go_enter Try.func30, Try.ntmps30
    go_wp2_with fail
    go_ret
    exact ⟨rfl, rfl⟩
theorem ref_send_full (rb base : Nat) (most : Int) (v : Value) (ps : List Pk) (c0 c1 c2 c3 : Int) (f : Int) (a : Option Addr) (n cap : Nat) (w : World) (h : RefAt w rb base most v ps c0 c1 c2 c3) (hf : f = 1 ∨ f = 2) (hn : n ≤ 1048592) (hr : most ≤ ps.length) :
    Calls Try.prog 30 #[.pointer (some ⟨rb, 0, none⟩), .int .i64 f, .slice a n cap] w fun e w' => e = .returned (.int .i64 210) ∧ Keep (fun _ => False) w w' := by
  have hn' : ¬ (1048592 : Int) < n := by omega
  obtain ⟨av, cv, rfl, h1, h2⟩ := h.slice
  have d0 : w.cell? ⟨rb, 0, none⟩ = some (.int .i64 most) := cell_of h.block 0
  have d1 : w.cell? ⟨rb, 1, none⟩ = some (.slice av ps.length cv) := cell_of h.block 1
  have hge : (most ≤ (ps.length : Int)) := hr
  have hrb : rb < w.heap.size := lt_of_block h.block
  clear h
  generalize ps.length = k at *
  rcases from_ok hf with ⟨e1, e2⟩ | ⟨e1, e2⟩
  all_goals
    clear hf
    go_enter Try.func30, Try.ntmps30
    go_wp2_with fail
    go_quiet (fail)
    go_wp2_with fail
    refine bodyPost_ret (v := .int .i64 210) (by simp [results, Try.results30, go_sem]) rfl ⟨rfl, ?_⟩
    exact Keep.drewN _ _ _
set_option maxHeartbeats 4000000 in
theorem ref_send_ok (rb base : Nat) (most : Int) (v : Value) (ps : List Pk) (c0 c1 c2 c3 : Int) (f : Int) (a : Option Addr) (s : ByteArray) (cap : Nat) (w : World) (h : RefAt w rb base most v ps c0 c1 c2 c3) (hf : f = 1 ∨ f = 2) (hn : s.size ≤ 1048592) (hbs : Bs w a s) (hr : (ps.length : Int) < most) (h64 : most ≤ 64) (hb : base ≤ w.heap.size) (hc0 : 0 ≤ c0) (hc1 : c0 ≤ 1000000000) :
    Calls Try.prog 30 #[.pointer (some ⟨rb, 0, none⟩), .int .i64 f, .slice a s.size cap] w fun e w' => e = .returned (.int .i64 0) ∧ RefPost rb base most v (ps ++ [(f, s)]) (c0 + 1) c1 c2 c3 w w' := by
  have hn' : ¬ (1048592 : Int) < s.size := by omega
  have H := Lib.hid h
  have hps : ps.length ≤ 64 := by omega
  have HC : Hid (∀ W, Keep (fun _ => False) w W → (convert 28 9 (.slice a s.size cap)).run Try.prog W = .ok (.string s) W) := fun W k => (hbs.keep0 k).conv cap
  obtain ⟨av, cv, rfl, h1, h2⟩ := h.slice
  have d0 : w.cell? ⟨rb, 0, none⟩ = some (.int .i64 most) := cell_of h.block 0
  have d1 : w.cell? ⟨rb, 1, none⟩ = some (.slice av ps.length cv) := cell_of h.block 1
  have hge : ¬ (most ≤ (ps.length : Int)) := by omega
  have hrb : rb < w.heap.size := lt_of_block h.block
  have HV : Hid (∃ vp : Value, vp = .slice av ps.length cv) := ⟨_, rfl⟩
  clear h hbs
  obtain ⟨k, hk⟩ : ∃ k, ps.length = k := ⟨_, rfl⟩
  have HK := Lib.hid hk
  obtain ⟨z, hz⟩ : ∃ z, s.size = z := ⟨_, rfl⟩
  rw [hz] at hn' hn HC
  have HZ := Lib.hid hz
  rw [hz]
  rw [hk] at d1 hge h1 hr
  clear hk hz
  rcases from_ok hf with ⟨e1, e2⟩ | ⟨e1, e2⟩
  all_goals
    clear hf
    go_enter Try.func30, Try.ntmps30
    go_wp2_with fail
    go_quiet (fail)
    go_wp2_with fail
    obtain ⟨i0, hi, hz0, hz1, hz2⟩ := info_parts Try.info34
    obtain ⟨X, hX⟩ : ∃ X, w.drewN nq = X := ⟨_, rfl⟩
    have KX : Hid (Keep (fun _ => False) w X) := hX ▸ Keep.drewN _ _ _
    have HX : Hid (RefAt X rb base most (.slice av ps.length cv) ps c0 c1 c2 c3) := H.out.keep0 KX.out
    obtain ⟨r, hr'⟩ : ∃ r, X.heap.size = r := ⟨_, rfl⟩
    have HR := Lib.hid hr'
    have HP := Lib.hid (tab_keep (l := [(1, FNew0 r), (6, FCopy r ps), (11, FOne r f s)]) (lasts_cons (FNew0.keep r) (lasts_cons (FCopy.keep r ps) (lasts_cons (FOne.keep r f s) lasts_nil))))
    have D1 : X.cell? ⟨rb, 1, none⟩ = some (.slice av k cv) := by have := cell_of HX.out.block 1; rw [← HK.out]; exact this
    rw [hX]
    clear hX hr'
    have hrX : rb < X.heap.size := Nat.lt_of_lt_of_le hrb KX.out.size
    obtain ⟨rc, rf⟩ := LaterF.rules X
    refine wp_region_tail2 1 12 (tab [(1, FNew0 r), (6, FCopy r ps), (11, FOne r f s)]) (by kernel_rfl) (by kernel_rfl) (tab_ge (by simp)) HP.out ?_
    simp only [List.take_succ_cons, List.take_zero, List.drop_succ_cons, List.drop_zero]
    refine wpMoves_move _ (.pointer (some ⟨rb, 0, none⟩)) rfl rfl rfl ?_
    simp only [Act.put, List.setIfInBounds_toArray, List.set_cons_succ, List.set_cons_zero]
    refine wpMoves_nil ?_
    intro fv G hG
    have HG := Lib.hid hG
    clear hG
    refine wpF_make HP.out HG.out rfl rfl (fun fct hp hf g => ?_) ?_
    · simp [go_sem, makesUpon]
      exact ⟨⟨_, rfl, by rw [← HR.out]; exact g.keep.size, heap_alloc_new _ _⟩, Keep.alloc _ _ _⟩
    simp only [Act.put, List.setIfInBounds_toArray, List.set_cons_succ, List.set_cons_zero]
    refine wpF_want HP.out HG.out rfl rfl (fun fct hp hf K' hK' => ?_); go_big_quiet_op; (try refine ⟨_, fun _ => rfl, ?_⟩); clear hp hf fct; refine hK' _ ?_; clear hK' K'
    refine wpF_want HP.out HG.out rfl rfl (fun fct hp hf K' hK' => ?_); go_big_quiet_op; (try refine ⟨_, fun _ => rfl, ?_⟩); clear hp hf fct; refine hK' _ ?_; clear hK' K'
    refine wpF_want HP.out HG.out rfl rfl (fun fct hp hf K' hK' => ?_); go_big_quiet_op; (try refine ⟨_, fun _ => rfl, ?_⟩); clear hp hf fct; refine hK' _ ?_; clear hK' K'
    refine wpF_want HP.out HG.out rfl rfl (fun fct hp hf K' hK' => ?_); go_big_quiet_op; (try refine ⟨_, fun _ => rfl, ?_⟩); clear hp hf fct; refine hK' _ ?_; clear hK' K'
    refine wpF_make HP.out HG.out rfl rfl (fun fct hp hf g => ?_) ?_
    · obtain ⟨g1, hv1, hr1, hg1⟩ := (hf.out _ g.fact).slot 1 27 rfl rfl (by decide)
      obtain ⟨v', w', hrun, ho, hkk⟩ := run_copy_pk 27 r base g1 ps _ g.world (by rw [← HR.out]; exact g.keep.size) hr1 hg1 (ownsRow_keep0 HX.out.row g.keep) hps
      refine makes_value (v := v') (w' := w') ?_ ho hkk
      rw [← hv1, HK.out] at hrun
      unfold execOp
      simp only [resolve, invoke, builtin, Sem.run_bind, Sem.run_pure, Result.andThen_ok, List.map_toArray, List.map_cons, List.map_nil]
      exact (congrArg (Result.andThen · _) hrun)
    simp only [Act.put, List.setIfInBounds_toArray, List.set_cons_succ, List.set_cons_zero]
    refine wpF_want HP.out HG.out rfl rfl (fun fct hp hf K' hK' => ?_); go_big_quiet_op; (try refine ⟨_, fun _ => rfl, ?_⟩); clear hp hf fct; refine hK' _ ?_; clear hK' K'
    refine wpF_want HP.out HG.out rfl rfl (fun fct hp hf K' hK' => ?_); go_big_quiet_op; (try refine ⟨_, fun _ => rfl, ?_⟩); clear hp hf fct; refine hK' _ ?_; clear hK' K'
    refine wpF_want HP.out HG.out rfl rfl (fun fct hp hf K' hK' => ?_); refine quiet_convert (v := .string s) rfl (fun W ⟨g, hW⟩ => ?_) ?_; (· subst hW; exact HC.out _ (KX.out.trans g.keep)); simp only [Act.put, List.setIfInBounds_toArray, List.set_cons_succ, List.set_cons_zero]; clear hp hf fct; refine hK' _ ?_; clear hK' K'
    refine wpF_want HP.out HG.out rfl rfl (fun fct hp hf K' hK' => ?_); go_big_quiet_op; (try refine ⟨_, fun _ => rfl, ?_⟩); clear hp hf fct; refine hK' _ ?_; clear hK' K'
    refine wpF_make HP.out HG.out rfl rfl (fun fct hp hf g => ?_) ?_
    · simp [go_sem, makesUpon]
      exact ⟨⟨_, rfl, by rw [← HR.out]; exact g.keep.size, heap_alloc_new _ _⟩, Keep.alloc _ _ _⟩
    simp only [Act.put, List.setIfInBounds_toArray, List.set_cons_succ, List.set_cons_zero]
    refine wpF_nil ?_
    rintro W ⟨g, rfl⟩
    have h6 : FCopy r ps (fv 6) g.world := g.fact 6 _ rfl (by decide)
    obtain ⟨g1, hv1, hr1, hg1⟩ := (g.fact 11 _ rfl (by decide) : FOne r f s (fv 11) g.world)
    rw [hv1]
    refine wpList_append_lies _ rfl _ _ 27 rfl r 34 i0 (.agg #[.int .i64 0, .string ⟨#[]⟩]) 2 24 Try.underlying27 hi hz0 hz1 hz2 rfl (by decide) _ _ _ rfl h6 ⟨g1, 0, none⟩ 1 1 [.int .i64 f, .string s] rfl rfl (two_news hg1) (two_one f s) (by decide) ?c3 ?c4 ?c5 _ rfl ?_
    case c3 => unfold maxLen; omega
    case c4 => omega
    case c5 => exact Nat.le_trans (Nat.le_of_eq HR.out.symm) g.keep.size
    intro g2 cap2 w2 hown hgrow hat hlt2
    have K2 : Hid (Keep (fun _ => False) X w2) := g.keep.own (by rw [HR.out]; exact h6) hgrow
    have HO2 : Hid (w2.ownsRow r 34 2 (.slice (some ⟨g2, 0, none⟩) (k + 1) cap2) (ps ++ [(f, s)]).length (flat (ps ++ [(f, s)]))) := by
      rw [flat_append, List.length_append, ← HK.out]
      exact hown
    rw [HK.out]
    clear hown hgrow hat hlt2 h6 hg1 hr1 hv1 HP HG
    have B2 := K2.out.heap HX.out.block (fun h => h)
    have e0 : w2.cell? ⟨rb, 1, none⟩ = some (.slice av ps.length cv) := cell_of B2 1
    have e1 : w2.frozen? ⟨rb, 1, none⟩ = false := free_of B2 1
    clear B2
    go_wp2_with fail
    obtain ⟨W3, hW3⟩ : ∃ W3, w2.setCell ⟨rb, 1, none⟩ (.slice (some ⟨g2, 0, none⟩) (k + 1) cap2) = W3 := ⟨_, rfl⟩
    have HP3 : Hid (RefPost rb base most (.slice av ps.length cv) (ps ++ [(f, s)]) c0 c1 c2 c3 w W3) := by
      rw [← hW3]
      exact H.out.put (KX.out.trans K2.out) (by rw [← HR.out]; exact KX.out.size) hb HO2.out
    rw [hW3]
    obtain ⟨v', hv'⟩ := HP3.out.block
    have e2 : W3.cell? ⟨rb, 2, none⟩ = some (.int .i64 c0) := cell_of hv' 2
    have e3 : W3.frozen? ⟨rb, 2, none⟩ = false := free_of hv' 2
    clear hv' hW3 HO2 K2 e0 e1
    go_still_tail 10, (by kernel_rfl)
    go_wp2_with fail
    rw [← HK.out]
    refine bodyPost_ret (v := .int .i64 0) (by simp [results, Try.results30, go_sem]) rfl ⟨rfl, ?_⟩
    exact (HP3.out.count0 (c0 + 1)).drew
end Go.Proofs.Ythcagpgdekhaeaa
