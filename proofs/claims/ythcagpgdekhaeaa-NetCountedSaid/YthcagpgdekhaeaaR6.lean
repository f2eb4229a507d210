/- The reference's Twice, walked. -/
import Derived.Test.YthcagpgdekhaeaaR5
namespace Go.Proofs.Ythcagpgdekhaeaa
open Go.RowKit
set_option maxHeartbeats 2000000 in
theorem ref_twice_bad (rb base : Nat) (most : Int) (v : Value) (ps : List Pk) (c0 c1 c2 c3 : Int) (i : Int) (w : World) (h : RefAt w rb base most v ps c0 c1 c2 c3) (hi : i < 0 ∨ (ps.length : Int) ≤ i) :
    Calls Try.prog 33 #[.pointer (some ⟨rb, 0, none⟩), .int .i64 i] w fun e w' => e = .returned (.int .i64 211) ∧ Keep (fun _ => False) w w' := by
  have HL : Hid (∀ W, Keep (fun _ => False) w W → Calls Try.prog 35 #[.pointer (some ⟨rb, 0, none⟩), .int .i64 i] W fun e w' => e = .returned (.tuple #[.agg #[.int .i64 0, .string ⟨#[]⟩], .int .i64 211]) ∧ Keep (fun _ => False) W w') := fun W k => ref_look_bad rb base most v ps c0 c1 c2 c3 i W (h.keep0 k) hi
  clear h hi
  go_enter Try.func33, Try.ntmps33
  go_wp2_with (go_at_call 35; refine (HL.out _ (Keep.refl _ _)).mono ?_; rintro e W1 ⟨rfl, hk⟩; have K1 := Lib.hid hk; clear hk; obtain ⟨q, hq⟩ : ∃ q, W1.heap.size = q := ⟨_, rfl⟩)
  exact bodyPost_ret (v := .int .i64 211) (by simp [results, Try.results33, go_sem]) rfl ⟨rfl, K1.out.allocR _⟩
set_option maxHeartbeats 2000000 in
theorem ref_twice_full (rb base : Nat) (most : Int) (v : Value) (ps : List Pk) (c0 c1 c2 c3 : Int) (i : Nat) (f : Int) (s : ByteArray) (w : World) (h : RefAt w rb base most v ps c0 c1 c2 c3) (hi : ps[i]? = some (f, s)) (hr : most ≤ ps.length) :
    Calls Try.prog 33 #[.pointer (some ⟨rb, 0, none⟩), .int .i64 i] w fun e w' => e = .returned (.int .i64 210) ∧ Keep (fun _ => False) w w' := by
  have HL : Hid (∀ W, Keep (fun _ => False) w W → Calls Try.prog 35 #[.pointer (some ⟨rb, 0, none⟩), .int .i64 i] W fun e w' => e = .returned (.tuple #[.agg #[.int .i64 f, .string s], .int .i64 0]) ∧ Keep (fun _ => False) W w') := fun W k => ref_look_ok rb base most v ps c0 c1 c2 c3 i f s W (h.keep0 k) hi
  have H := Lib.hid h
  obtain ⟨av, cv, rfl, h1, h2⟩ := h.slice
  have hge : (most ≤ (ps.length : Int)) := hr
  have HB := Lib.hid h.block
  clear h hi hr H
  generalize ps.length = k at *
  go_enter Try.func33, Try.ntmps33
  go_wp2_with (go_at_call 35; refine (HL.out _ (Keep.refl _ _)).mono ?_; rintro e W1 ⟨rfl, hk⟩; have K1 := Lib.hid hk; clear hk; obtain ⟨q, hq⟩ : ∃ q, W1.heap.size = q := ⟨_, rfl⟩; have HQ := Lib.hid hq)
  obtain ⟨W2, hW2⟩ : ∃ W2, W1.alloc (.cells #[.int .i64 f, .string s] 34) = W2 := ⟨_, rfl⟩
  have K2 : Hid (Keep (fun _ => False) w W2) := by rw [← hW2]; exact K1.out.allocR _
  have B2 := K2.out.heap HB.out (fun h => h)
  have hrb : rb < W2.heap.size := lt_of_block B2
  have d0 : W2.cell? ⟨rb, 0, none⟩ = some (.int .i64 most) := cell_of B2 0
  have d1 : W2.cell? ⟨rb, 1, none⟩ = some (.slice av k cv) := cell_of B2 1
  rw [hW2]
  clear hW2 hq B2
  go_quiet (fail)
  go_wp2_with fail
  exact bodyPost_ret (v := .int .i64 210) (by simp [results, Try.results33, go_sem]) rfl ⟨rfl, K2.out.drewNR _⟩
set_option maxHeartbeats 4000000 in
theorem ref_twice_ok (rb base : Nat) (most : Int) (v : Value) (ps : List Pk) (c0 c1 c2 c3 : Int) (i : Nat) (f : Int) (s : ByteArray) (w : World) (h : RefAt w rb base most v ps c0 c1 c2 c3) (hi : ps[i]? = some (f, s)) (hr : (ps.length : Int) < most) (h64 : most ≤ 64) (hb : base ≤ w.heap.size) (hc0 : 0 ≤ c3) (hc1 : c3 ≤ 1000000000) :
    Calls Try.prog 33 #[.pointer (some ⟨rb, 0, none⟩), .int .i64 i] w fun e w' => e = .returned (.int .i64 0) ∧ RefPost rb base most v (ps ++ [(f, s)]) c0 c1 c2 (c3 + 1) w w' := by
  have HL : Hid (∀ W, Keep (fun _ => False) w W → Calls Try.prog 35 #[.pointer (some ⟨rb, 0, none⟩), .int .i64 i] W fun e w' => e = .returned (.tuple #[.agg #[.int .i64 f, .string s], .int .i64 0]) ∧ Keep (fun _ => False) W w') := fun W k => ref_look_ok rb base most v ps c0 c1 c2 c3 i f s W (h.keep0 k) hi
  have H := Lib.hid h
  have hps : ps.length ≤ 64 := by omega
  obtain ⟨av, cv, rfl, h1, h2⟩ := h.slice
  have hge : ¬ (most ≤ (ps.length : Int)) := by omega
  obtain ⟨i0, hi0, hz0, hz1, hz2⟩ := info_parts Try.info34
  clear h hi
  obtain ⟨k, hk⟩ : ∃ k, ps.length = k := ⟨_, rfl⟩
  have HK := Lib.hid hk
  rw [hk] at hge h1 hr
  clear hk
  go_enter Try.func33, Try.ntmps33
  go_wp2_with (go_at_call 35; refine (HL.out _ (Keep.refl _ _)).mono ?_; rintro e W1 ⟨rfl, hk⟩; have K1 := Lib.hid hk; clear hk; obtain ⟨q, hq⟩ : ∃ q, W1.heap.size = q := ⟨_, rfl⟩; have HQ := Lib.hid hq)
  obtain ⟨W2, hW2⟩ : ∃ W2, W1.alloc (.cells #[.int .i64 f, .string s] 34) = W2 := ⟨_, rfl⟩
  have K2 : Hid (Keep (fun _ => False) w W2) := by rw [← hW2]; exact K1.out.allocR _
  have HB2 : Hid (W2.heap[q]? = some (.cells #[.int .i64 f, .string s] 34 (0, 0))) := by rw [← hW2, ← HQ.out]; exact heap_alloc_new _ _
  have B2 := K2.out.heap H.out.block (fun h => h)
  have hrb : rb < W2.heap.size := lt_of_block B2
  have d0 : W2.cell? ⟨rb, 0, none⟩ = some (.int .i64 most) := cell_of B2 0
  have d1 : W2.cell? ⟨rb, 1, none⟩ = some (.slice av k cv) := by have := cell_of B2 1; rw [← HK.out]; exact this
  rw [hW2]
  clear hW2 hq B2
  go_quiet (fail)
  go_wp2_with fail
  obtain ⟨X, hX⟩ : ∃ X, W2.drewN nq = X := ⟨_, rfl⟩
  have KX : Hid (Keep (fun _ => False) w X) := hX ▸ K2.out.drewNR _
  have HX : Hid (RefAt X rb base most (.slice av ps.length cv) ps c0 c1 c2 c3) := H.out.keep0 KX.out
  obtain ⟨r, hr'⟩ : ∃ r, X.heap.size = r := ⟨_, rfl⟩
  have HR := Lib.hid hr'
  have HP := Lib.hid (tab_keep (l := [(1, FNew0 r), (6, FCopy r ps), (8, FOne r f s)]) (lasts_cons (FNew0.keep r) (lasts_cons (FCopy.keep r ps) (lasts_cons (FOne.keep r f s) lasts_nil))))
  have D1 : X.cell? ⟨rb, 1, none⟩ = some (.slice av k cv) := by have := cell_of HX.out.block 1; rw [← HK.out]; exact this
  have BX : X.heap[q]? = some (.cells #[.int .i64 f, .string s] 34 (0, 0)) := hX ▸ HB2.out
  have D2 : X.cell? ⟨q, 0, none⟩ = some (.int .i64 f) := cell_of BX 0
  have D3 : X.cell? ⟨q, 1, none⟩ = some (.string s) := cell_of BX 1
  have hqX : q < X.heap.size := lt_of_block BX
  have hrX : rb < X.heap.size := lt_of_block HX.out.block
  rw [hX]
  clear hX hr' BX
  obtain ⟨rc, rf⟩ := LaterF.rules X
  refine wp_region_tail2 1 9 (tab [(1, FNew0 r), (6, FCopy r ps), (8, FOne r f s)]) (by kernel_rfl) (by kernel_rfl) (tab_ge (by simp)) HP.out ?_
  simp only [List.take_succ_cons, List.take_zero, List.drop_succ_cons, List.drop_zero]
  refine wpMoves_move _ (.pointer (some ⟨rb, 0, none⟩)) rfl rfl rfl ?_
  simp only [Act.put, List.setIfInBounds_toArray, List.set_cons_succ, List.set_cons_zero]
  refine wpMoves_nil ?_
  intro fv G hG
  have HG := Lib.hid hG
  clear hG
  refine wpF_make HP.out HG.out rfl rfl (fun fct hp hf g => ?_) ?_
  · simp [go_sem, makesUpon]
    exact ⟨⟨_, rfl, by rw [← HR.out]; exact g.keep.size, heap_alloc_new _ _⟩, Keep.alloc _ _ _⟩
  simp only [Act.put, List.setIfInBounds_toArray, List.set_cons_succ, List.set_cons_zero]
  refine wpF_want HP.out HG.out rfl rfl (fun fct hp hf K' hK' => ?_); go_big_quiet_op; (try refine ⟨_, fun _ => rfl, ?_⟩); clear hp hf fct; refine hK' _ ?_; clear hK' K'
  refine wpF_want HP.out HG.out rfl rfl (fun fct hp hf K' hK' => ?_); go_big_quiet_op; (try refine ⟨_, fun _ => rfl, ?_⟩); clear hp hf fct; refine hK' _ ?_; clear hK' K'
  refine wpF_want HP.out HG.out rfl rfl (fun fct hp hf K' hK' => ?_); go_big_quiet_op; (try refine ⟨_, fun _ => rfl, ?_⟩); clear hp hf fct; refine hK' _ ?_; clear hK' K'
  refine wpF_want HP.out HG.out rfl rfl (fun fct hp hf K' hK' => ?_); go_big_quiet_op; (try refine ⟨_, fun _ => rfl, ?_⟩); clear hp hf fct; refine hK' _ ?_; clear hK' K'
  refine wpF_make HP.out HG.out rfl rfl (fun fct hp hf g => ?_) ?_
  · obtain ⟨g1, hv1, hr1, hg1⟩ := (hf.out _ g.fact).slot 1 27 rfl rfl (by decide)
    obtain ⟨v', w', hrun, ho, hkk⟩ := run_copy_pk 27 r base g1 ps _ g.world (by rw [← HR.out]; exact g.keep.size) hr1 hg1 (ownsRow_keep0 HX.out.row g.keep) hps
    refine makes_value (v := v') (w' := w') ?_ ho hkk
    rw [← hv1, HK.out] at hrun
    unfold execOp
    simp only [resolve, invoke, builtin, Sem.run_bind, Sem.run_pure, Result.andThen_ok, List.map_toArray, List.map_cons, List.map_nil]
    exact (congrArg (Result.andThen · _) hrun)
  simp only [Act.put, List.setIfInBounds_toArray, List.set_cons_succ, List.set_cons_zero]
  refine wpF_want HP.out HG.out rfl rfl (fun fct hp hf K' hK' => ?_); go_big_quiet_op; (try refine ⟨_, fun _ => rfl, ?_⟩); clear hp hf fct; refine hK' _ ?_; clear hK' K'
  refine wpF_make HP.out HG.out rfl rfl (fun fct hp hf g => ?_) ?_
  · simp [go_sem, makesUpon]
    exact ⟨⟨_, rfl, by rw [← HR.out]; exact g.keep.size, heap_alloc_new _ _⟩, Keep.alloc _ _ _⟩
  simp only [Act.put, List.setIfInBounds_toArray, List.set_cons_succ, List.set_cons_zero]
  refine wpF_nil ?_
  rintro W ⟨g, rfl⟩
  have h6 : FCopy r ps (fv 6) g.world := g.fact 6 _ rfl (by decide)
  obtain ⟨g1, hv1, hr1, hg1⟩ := (g.fact 8 _ rfl (by decide) : FOne r f s (fv 8) g.world)
  rw [hv1]
  refine wpList_append_lies _ rfl _ _ 27 rfl r 34 i0 (.agg #[.int .i64 0, .string ⟨#[]⟩]) 2 24 Try.underlying27 hi0 hz0 hz1 hz2 rfl (by decide) _ _ _ rfl h6 ⟨g1, 0, none⟩ 1 1 [.int .i64 f, .string s] rfl rfl (two_news hg1) (two_one f s) (by decide) ?c3 ?c4 ?c5 _ rfl ?_
  case c3 => unfold maxLen; omega
  case c4 => omega
  case c5 => exact Nat.le_trans (Nat.le_of_eq HR.out.symm) g.keep.size
  intro g2 cap2 w2 hown hgrow hat hlt2
  have K3 : Hid (Keep (fun _ => False) X w2) := g.keep.own (by rw [HR.out]; exact h6) hgrow
  have HO2 : Hid (w2.ownsRow r 34 2 (.slice (some ⟨g2, 0, none⟩) (k + 1) cap2) (ps ++ [(f, s)]).length (flat (ps ++ [(f, s)]))) := by
    rw [flat_append, List.length_append, ← HK.out]
    exact hown
  rw [HK.out]
  clear hown hgrow hat hlt2 h6 hg1 hr1 hv1 HP HG
  have B3 := K3.out.heap HX.out.block (fun h => h)
  have e0 : w2.cell? ⟨rb, 1, none⟩ = some (.slice av ps.length cv) := cell_of B3 1
  have e1 : w2.frozen? ⟨rb, 1, none⟩ = false := free_of B3 1
  clear B3
  go_wp2_with fail
  obtain ⟨W3, hW3⟩ : ∃ W3, w2.setCell ⟨rb, 1, none⟩ (.slice (some ⟨g2, 0, none⟩) (k + 1) cap2) = W3 := ⟨_, rfl⟩
  have HP3 : Hid (RefPost rb base most (.slice av ps.length cv) (ps ++ [(f, s)]) c0 c1 c2 c3 w W3) := by
    rw [← hW3]
    exact H.out.put (KX.out.trans K3.out) (by rw [← HR.out]; exact KX.out.size) hb HO2.out
  rw [hW3]
  obtain ⟨v', hv'⟩ := HP3.out.block
  have e2 : W3.cell? ⟨rb, 5, none⟩ = some (.int .i64 c3) := cell_of hv' 5
  have e3 : W3.frozen? ⟨rb, 5, none⟩ = false := free_of hv' 5
  clear hv' hW3 HO2 K3 e0 e1
  go_still_tail 10, (by kernel_rfl)
  go_wp2_with fail
  rw [← HK.out]
  refine bodyPost_ret (v := .int .i64 0) (by simp [results, Try.results33, go_sem]) rfl ⟨rfl, ?_⟩
  exact (HP3.out.count3 (c3 + 1)).drew
end Go.Proofs.Ythcagpgdekhaeaa
