/- The region of JoinMore that joins and asks: whatever order. -/
import Derived.Test.YtfoklfifgmacfaaFact3
import Derived.Test.YtfoklfifgmacfaaL5
namespace Go.Proofs.Ytfoklfifgmacfaa
open Go.RowKit
/-- A slice of two cells, made anew. -/
def FS (x y : C) (v : Value) (w : World) : Prop := ∃ b, v = .slice (some ⟨b, 0, none⟩) 2 2 ∧ w.heap[b]? = some (.cells #[.int .i64 x.n, .int .i64 x.s, .int .i64 x.v0, .int .i64 x.v1, .bool x.gone, .string x.value, .int .i64 x.d0, .int .i64 x.d1, .int .i64 y.n, .int .i64 y.s, .int .i64 y.v0, .int .i64 y.v1, .bool y.gone, .string y.value, .int .i64 y.d0, .int .i64 y.d1] 27 (0, 0))
theorem FS.keep {x y : C} {v : Value} {w w' : World} (k : Keep (fun _ => False) w w') (h : FS x y v w) : FS x y v w' := by
  obtain ⟨b, rfl, hb⟩ := h
  exact ⟨b, rfl, k.heap hb (fun h => h)⟩
theorem FS.join {x y : C} {v : Value} {w : World} (h : FS x y v w) : Calls Try.prog 12 #[v] w fun e w' => e = .returned (.agg #[.int .i64 (C.join [x, y]).n, .int .i64 (C.join [x, y]).s, .int .i64 (C.join [x, y]).v0, .int .i64 (C.join [x, y]).v1, .bool (C.join [x, y]).gone, .string (C.join [x, y]).value, .int .i64 (C.join [x, y]).d0, .int .i64 (C.join [x, y]).d1]) ∧ Keep (fun _ => False) w w' := by
  obtain ⟨b, rfl, hb⟩ := h
  exact join_c2 x y b w hb
def findRegion (n : Nat) : Code → Option Code
  | .region id ops d => if id = n then some (.region id ops d) else none
  | .loop c => findRegion n c
  | .seq a b => match findRegion n a with
    | some c => some c
    | none => findRegion n b
  | .block _ c => findRegion n c
  | .scope c => findRegion n c
  | .cond _ a b => match findRegion n a with
    | some c => some c
    | none => findRegion n b
  | _ => none

noncomputable def moreReg : Code := ((Try.f5.body.bind (findRegion 4)).getD .skip)
set_option maxHeartbeats 4000000 in
set_option maxRecDepth 100000 in
theorem more_reg0 (u0 u1 u2 u3 u4 u8 u9 u10 u11 u12 u13 u14 u15 u16 u17 u18 u19 u20 u21 u22 u23 u24 u25 u26 u27 u28 u29 u30 u31 u32 u33 u34 u35 u36 u37 u38 u39 u40 u41 u42 u43 u44 u45 u46 u47 u48 u49 u50 u51 u52 u53 u54 u55 u56 u57 u58 u59 u60 u61 u62 u63 u64 u65 u66 u67 u68 u69 u70 u71 u72 u73 : Value) (q5 q6 q7 : Nat) (A B D : C) (w : World) (Q : Exit → Act → World → Prop) (h5 : Hid (IsC w q5 A)) (h6 : Hid (IsC w q6 B)) (h7 : Hid (IsC w q7 D)) (HWab : Hid (∀ w, Calls Try.prog 14 #[.agg #[.int .i64 A.n, .int .i64 A.s, .int .i64 A.v0, .int .i64 A.v1, .bool A.gone, .string A.value, .int .i64 A.d0, .int .i64 A.d1], .agg #[.int .i64 B.n, .int .i64 B.s, .int .i64 B.v0, .int .i64 B.v1, .bool B.gone, .string B.value, .int .i64 B.d0, .int .i64 B.d1]] w fun e w' => e = .returned (.bool false) ∧ Keep (fun _ => False) w w'))
    (hQ : Hid (∀ x31 x32 x33 x34 x35 x36 x37 x38 x39 x40 x41 x42 x43 x44 x45 x46 x47 x48 x49 x50 x51 x52 x53 x54 w', Keep (fun _ => False) w w' → Q .normal ⟨(u0 :: u1 :: u2 :: u3 :: u4 :: .pointer (some ⟨q5, 0, none⟩) :: .pointer (some ⟨q6, 0, none⟩) :: .pointer (some ⟨q7, 0, none⟩) :: u8 :: u9 :: u10 :: u11 :: u12 :: u13 :: u14 :: u15 :: u16 :: u17 :: u18 :: u19 :: u20 :: u21 :: u22 :: u23 :: u24 :: u25 :: u26 :: u27 :: u28 :: u29 :: u30 :: x31 :: x32 :: x33 :: x34 :: x35 :: x36 :: x37 :: x38 :: x39 :: x40 :: x41 :: x42 :: x43 :: x44 :: x45 :: x46 :: x47 :: x48 :: x49 :: x50 :: x51 :: x52 :: x53 :: x54 :: .bool false :: u56 :: u57 :: u58 :: u59 :: u60 :: u61 :: u62 :: u63 :: u64 :: u65 :: u66 :: u67 :: u68 :: u69 :: u70 :: u71 :: u72 :: u73 :: []).toArray, []⟩ w')) : Code.wp Try.prog moreReg Q ⟨(u0 :: u1 :: u2 :: u3 :: u4 :: .pointer (some ⟨q5, 0, none⟩) :: .pointer (some ⟨q6, 0, none⟩) :: .pointer (some ⟨q7, 0, none⟩) :: u8 :: u9 :: u10 :: u11 :: u12 :: u13 :: u14 :: u15 :: u16 :: u17 :: u18 :: u19 :: u20 :: u21 :: u22 :: u23 :: u24 :: u25 :: u26 :: u27 :: u28 :: u29 :: u30 :: u31 :: u32 :: u33 :: u34 :: u35 :: u36 :: u37 :: u38 :: u39 :: u40 :: u41 :: u42 :: u43 :: u44 :: u45 :: u46 :: u47 :: u48 :: u49 :: u50 :: u51 :: u52 :: u53 :: u54 :: u55 :: u56 :: u57 :: u58 :: u59 :: u60 :: u61 :: u62 :: u63 :: u64 :: u65 :: u66 :: u67 :: u68 :: u69 :: u70 :: u71 :: u72 :: u73 :: []).toArray, []⟩ w := by
  conv => arg 2; whnf
  have g5 : q5 < w.heap.size := lt_of_block h5.out
  have g6 : q6 < w.heap.size := lt_of_block h6.out
  have g7 : q7 < w.heap.size := lt_of_block h7.out
  obtain ⟨a0, a1, a2, a3, a4, a5, a6, a7⟩ := h5.out.cells
  obtain ⟨b0, b1, b2, b3, b4, b5, b6, b7⟩ := h6.out.cells
  obtain ⟨d0, d1, d2, d3, d4, d5, d6, d7⟩ := h7.out.cells
  obtain ⟨rc, rf⟩ := LaterF.rules w
  have HP := Lib.hid (tab_keep (l := []) (lasts_nil))
  refine wp_region_walk (tab []) (by kernel_rfl) (by kernel_rfl) HP.out ?_
  intro fv G hG
  have HG := Lib.hid hG
  clear hG
  refine wpF_want HP.out HG.out rfl rfl (fun fct hp hf K hK => ?_); go_big_quiet_op; refine ⟨_, fun _ => rfl, ?_⟩; clear hp hf fct; refine hK _ ?_; clear hK K
  refine wpF_want HP.out HG.out rfl rfl (fun fct hp hf K hK => ?_); go_big_quiet_op; refine ⟨_, fun _ => rfl, ?_⟩; clear hp hf fct; refine hK _ ?_; clear hK K
  refine wpF_want HP.out HG.out rfl rfl (fun fct hp hf K hK => ?_); go_big_quiet_op; apply Exists.intro; refine ⟨fun g => ?_, ?_⟩; (go_at_call 14; with_reducible refine LaterF.call hp (HWab.out _))
  clear hp hf fct; refine hK _ ?_; clear hK K
  refine wpF_want HP.out HG.out rfl rfl (fun fct hp hf K hK => ?_); go_big_quiet_op; clear hp hf fct; refine hK _ ?_; clear hK K
  refine wpF_skip rfl rfl ?_
  simp only [Act.put, List.setIfInBounds_toArray, List.set_cons_succ, List.set_cons_zero]
  refine wpF_skip rfl rfl ?_
  simp only [Act.put, List.setIfInBounds_toArray, List.set_cons_succ, List.set_cons_zero]
  refine wpF_skip rfl rfl ?_
  simp only [Act.put, List.setIfInBounds_toArray, List.set_cons_succ, List.set_cons_zero]
  refine wpF_skip rfl rfl ?_
  simp only [Act.put, List.setIfInBounds_toArray, List.set_cons_succ, List.set_cons_zero]
  refine wpF_skip rfl rfl ?_
  simp only [Act.put, List.setIfInBounds_toArray, List.set_cons_succ, List.set_cons_zero]
  refine wpF_skip rfl rfl ?_
  simp only [Act.put, List.setIfInBounds_toArray, List.set_cons_succ, List.set_cons_zero]
  refine wpF_skip rfl rfl ?_
  simp only [Act.put, List.setIfInBounds_toArray, List.set_cons_succ, List.set_cons_zero]
  refine wpF_skip rfl rfl ?_
  simp only [Act.put, List.setIfInBounds_toArray, List.set_cons_succ, List.set_cons_zero]
  refine wpF_skip rfl rfl ?_
  simp only [Act.put, List.setIfInBounds_toArray, List.set_cons_succ, List.set_cons_zero]
  refine wpF_skip rfl rfl ?_
  simp only [Act.put, List.setIfInBounds_toArray, List.set_cons_succ, List.set_cons_zero]
  refine wpF_skip rfl rfl ?_
  simp only [Act.put, List.setIfInBounds_toArray, List.set_cons_succ, List.set_cons_zero]
  refine wpF_skip rfl rfl ?_
  simp only [Act.put, List.setIfInBounds_toArray, List.set_cons_succ, List.set_cons_zero]
  refine wpF_skip rfl rfl ?_
  simp only [Act.put, List.setIfInBounds_toArray, List.set_cons_succ, List.set_cons_zero]
  refine wpF_skip rfl rfl ?_
  simp only [Act.put, List.setIfInBounds_toArray, List.set_cons_succ, List.set_cons_zero]
  refine wpF_skip rfl rfl ?_
  simp only [Act.put, List.setIfInBounds_toArray, List.set_cons_succ, List.set_cons_zero]
  refine wpF_skip rfl rfl ?_
  simp only [Act.put, List.setIfInBounds_toArray, List.set_cons_succ, List.set_cons_zero]
  refine wpF_skip rfl rfl ?_
  simp only [Act.put, List.setIfInBounds_toArray, List.set_cons_succ, List.set_cons_zero]
  refine wpF_skip rfl rfl ?_
  simp only [Act.put, List.setIfInBounds_toArray, List.set_cons_succ, List.set_cons_zero]
  refine wpF_skip rfl rfl ?_
  simp only [Act.put, List.setIfInBounds_toArray, List.set_cons_succ, List.set_cons_zero]
  refine wpF_skip rfl rfl ?_
  simp only [Act.put, List.setIfInBounds_toArray, List.set_cons_succ, List.set_cons_zero]
  refine wpF_want HP.out HG.out rfl rfl (fun fct hp hf K hK => ?_); go_big_quiet_op; refine ⟨_, fun _ => rfl, ?_⟩; clear hp hf fct; refine hK _ ?_; clear hK K
  refine wpF_nil ?_
  rintro w' ⟨g, rfl⟩
  exact hQ.out _ _ _ _ _ _ _ _ _ _ _ _ _ _ _ _ _ _ _ _ _ _ _ _ _ g.keep
set_option maxHeartbeats 4000000 in
set_option maxRecDepth 100000 in
theorem more_reg1 (u0 u1 u2 u3 u4 u8 u9 u10 u11 u12 u13 u14 u15 u16 u17 u18 u19 u20 u21 u22 u23 u24 u25 u26 u27 u28 u29 u30 u31 u32 u33 u34 u35 u36 u37 u38 u39 u40 u41 u42 u43 u44 u45 u46 u47 u48 u49 u50 u51 u52 u53 u54 u55 u56 u57 u58 u59 u60 u61 u62 u63 u64 u65 u66 u67 u68 u69 u70 u71 u72 u73 : Value) (q5 q6 q7 : Nat) (A B D : C) (w : World) (Q : Exit → Act → World → Prop) (h5 : Hid (IsC w q5 A)) (h6 : Hid (IsC w q6 B)) (h7 : Hid (IsC w q7 D)) (X Y : C) (HWab : Hid (∀ w, Calls Try.prog 14 #[.agg #[.int .i64 A.n, .int .i64 A.s, .int .i64 A.v0, .int .i64 A.v1, .bool A.gone, .string A.value, .int .i64 A.d0, .int .i64 A.d1], .agg #[.int .i64 B.n, .int .i64 B.s, .int .i64 B.v0, .int .i64 B.v1, .bool B.gone, .string B.value, .int .i64 B.d0, .int .i64 B.d1]] w fun e w' => e = .returned (.bool true) ∧ Keep (fun _ => False) w w')) (HJad : Hid (∀ (v : Value) (w : World), FS A D v w → Calls Try.prog 12 #[v] w fun e w' => e = .returned (.agg #[.int .i64 X.n, .int .i64 X.s, .int .i64 X.v0, .int .i64 X.v1, .bool X.gone, .string X.value, .int .i64 X.d0, .int .i64 X.d1]) ∧ Keep (fun _ => False) w w')) (HJbd : Hid (∀ (v : Value) (w : World), FS B D v w → Calls Try.prog 12 #[v] w fun e w' => e = .returned (.agg #[.int .i64 Y.n, .int .i64 Y.s, .int .i64 Y.v0, .int .i64 Y.v1, .bool Y.gone, .string Y.value, .int .i64 Y.d0, .int .i64 Y.d1]) ∧ Keep (fun _ => False) w w')) (HWj : Hid (∀ w, Calls Try.prog 14 #[.agg #[.int .i64 X.n, .int .i64 X.s, .int .i64 X.v0, .int .i64 X.v1, .bool X.gone, .string X.value, .int .i64 X.d0, .int .i64 X.d1], .agg #[.int .i64 Y.n, .int .i64 Y.s, .int .i64 Y.v0, .int .i64 Y.v1, .bool Y.gone, .string Y.value, .int .i64 Y.d0, .int .i64 Y.d1]] w fun e w' => e = .returned (.bool true) ∧ Keep (fun _ => False) w w')) (HWba : Hid (∀ w, Calls Try.prog 14 #[.agg #[.int .i64 B.n, .int .i64 B.s, .int .i64 B.v0, .int .i64 B.v1, .bool B.gone, .string B.value, .int .i64 B.d0, .int .i64 B.d1], .agg #[.int .i64 A.n, .int .i64 A.s, .int .i64 A.v0, .int .i64 A.v1, .bool A.gone, .string A.value, .int .i64 A.d0, .int .i64 A.d1]] w fun e w' => e = .returned (.bool false) ∧ Keep (fun _ => False) w w'))
    (hQ : Hid (∀ x31 x32 x33 x34 x35 x36 x37 x38 x39 x40 x41 x42 x43 x44 x45 x46 x47 x48 x49 x50 x51 x52 x53 x54 w', Keep (fun _ => False) w w' → Q .normal ⟨(u0 :: u1 :: u2 :: u3 :: u4 :: .pointer (some ⟨q5, 0, none⟩) :: .pointer (some ⟨q6, 0, none⟩) :: .pointer (some ⟨q7, 0, none⟩) :: u8 :: u9 :: u10 :: u11 :: u12 :: u13 :: u14 :: u15 :: u16 :: u17 :: u18 :: u19 :: u20 :: u21 :: u22 :: u23 :: u24 :: u25 :: u26 :: u27 :: u28 :: u29 :: u30 :: x31 :: x32 :: x33 :: x34 :: x35 :: x36 :: x37 :: x38 :: x39 :: x40 :: x41 :: x42 :: x43 :: x44 :: x45 :: x46 :: x47 :: x48 :: x49 :: x50 :: x51 :: x52 :: x53 :: x54 :: .bool false :: u56 :: u57 :: u58 :: u59 :: u60 :: u61 :: u62 :: u63 :: u64 :: u65 :: u66 :: u67 :: u68 :: u69 :: u70 :: u71 :: u72 :: u73 :: []).toArray, []⟩ w')) : Code.wp Try.prog moreReg Q ⟨(u0 :: u1 :: u2 :: u3 :: u4 :: .pointer (some ⟨q5, 0, none⟩) :: .pointer (some ⟨q6, 0, none⟩) :: .pointer (some ⟨q7, 0, none⟩) :: u8 :: u9 :: u10 :: u11 :: u12 :: u13 :: u14 :: u15 :: u16 :: u17 :: u18 :: u19 :: u20 :: u21 :: u22 :: u23 :: u24 :: u25 :: u26 :: u27 :: u28 :: u29 :: u30 :: u31 :: u32 :: u33 :: u34 :: u35 :: u36 :: u37 :: u38 :: u39 :: u40 :: u41 :: u42 :: u43 :: u44 :: u45 :: u46 :: u47 :: u48 :: u49 :: u50 :: u51 :: u52 :: u53 :: u54 :: u55 :: u56 :: u57 :: u58 :: u59 :: u60 :: u61 :: u62 :: u63 :: u64 :: u65 :: u66 :: u67 :: u68 :: u69 :: u70 :: u71 :: u72 :: u73 :: []).toArray, []⟩ w := by
  conv => arg 2; whnf
  have g5 : q5 < w.heap.size := lt_of_block h5.out
  have g6 : q6 < w.heap.size := lt_of_block h6.out
  have g7 : q7 < w.heap.size := lt_of_block h7.out
  obtain ⟨a0, a1, a2, a3, a4, a5, a6, a7⟩ := h5.out.cells
  obtain ⟨b0, b1, b2, b3, b4, b5, b6, b7⟩ := h6.out.cells
  obtain ⟨d0, d1, d2, d3, d4, d5, d6, d7⟩ := h7.out.cells
  obtain ⟨rc, rf⟩ := LaterF.rules w
  have HP := Lib.hid (tab_keep (l := [(6, FS A D), (10, FS B D)]) (lasts_cons (fun _ _ _ k h => FS.keep k h) (lasts_cons (fun _ _ _ k h => FS.keep k h) lasts_nil)))
  refine wp_region_walk (tab [(6, FS A D), (10, FS B D)]) (by kernel_rfl) (by kernel_rfl) HP.out ?_
  intro fv G hG
  have HG := Lib.hid hG
  clear hG
  refine wpF_want HP.out HG.out rfl rfl (fun fct hp hf K hK => ?_); go_big_quiet_op; refine ⟨_, fun _ => rfl, ?_⟩; clear hp hf fct; refine hK _ ?_; clear hK K
  refine wpF_want HP.out HG.out rfl rfl (fun fct hp hf K hK => ?_); go_big_quiet_op; refine ⟨_, fun _ => rfl, ?_⟩; clear hp hf fct; refine hK _ ?_; clear hK K
  refine wpF_want HP.out HG.out rfl rfl (fun fct hp hf K hK => ?_); go_big_quiet_op; apply Exists.intro; refine ⟨fun g => ?_, ?_⟩; (go_at_call 14; with_reducible refine LaterF.call hp (HWab.out _))
  clear hp hf fct; refine hK _ ?_; clear hK K
  refine wpF_want HP.out HG.out rfl rfl (fun fct hp hf K hK => ?_); go_big_quiet_op; clear hp hf fct; refine hK _ ?_; clear hK K
  refine wpF_want HP.out HG.out rfl rfl (fun fct hp hf K hK => ?_); go_big_quiet_op; refine ⟨_, fun _ => rfl, ?_⟩; clear hp hf fct; refine hK _ ?_; clear hK K
  refine wpF_want HP.out HG.out rfl rfl (fun fct hp hf K hK => ?_); go_big_quiet_op; refine ⟨_, fun _ => rfl, ?_⟩; clear hp hf fct; refine hK _ ?_; clear hK K
  refine wpF_make HP.out HG.out rfl rfl (fun fct hp hf g => ?_) ?_
  · clear hQ
    simp [go_sem, makesUpon]
    exact ⟨⟨_, rfl, new_at _ _ _ _ rfl⟩, Keep.alloc _ _ _⟩
  simp only [Act.put, List.setIfInBounds_toArray, List.set_cons_succ, List.set_cons_zero]
  refine wpF_want HP.out HG.out rfl rfl (fun fct hp hf K hK => ?_); go_big_quiet_op; apply Exists.intro; refine ⟨fun g => ?_, ?_⟩; (go_at_call 12; with_reducible refine LaterF.call hp (HJad.out _ _ ((hf.out _ g.fact).slot 6 37 rfl rfl (by decide))))
  clear hp hf fct; refine hK _ ?_; clear hK K
  refine wpF_want HP.out HG.out rfl rfl (fun fct hp hf K hK => ?_); go_big_quiet_op; refine ⟨_, fun _ => rfl, ?_⟩; clear hp hf fct; refine hK _ ?_; clear hK K
  refine wpF_want HP.out HG.out rfl rfl (fun fct hp hf K hK => ?_); go_big_quiet_op; refine ⟨_, fun _ => rfl, ?_⟩; clear hp hf fct; refine hK _ ?_; clear hK K
  refine wpF_make HP.out HG.out rfl rfl (fun fct hp hf g => ?_) ?_
  · clear hQ
    simp [go_sem, makesUpon]
    exact ⟨⟨_, rfl, new_at _ _ _ _ rfl⟩, Keep.alloc _ _ _⟩
  simp only [Act.put, List.setIfInBounds_toArray, List.set_cons_succ, List.set_cons_zero]
  refine wpF_want HP.out HG.out rfl rfl (fun fct hp hf K hK => ?_); go_big_quiet_op; apply Exists.intro; refine ⟨fun g => ?_, ?_⟩; (go_at_call 12; with_reducible refine LaterF.call hp (HJbd.out _ _ ((hf.out _ g.fact).slot 10 41 rfl rfl (by decide))))
  clear hp hf fct; refine hK _ ?_; clear hK K
  refine wpF_want HP.out HG.out rfl rfl (fun fct hp hf K hK => ?_); go_big_quiet_op; apply Exists.intro; refine ⟨fun g => ?_, ?_⟩; (go_at_call 14; with_reducible refine LaterF.call hp (HWj.out _))
  clear hp hf fct; refine hK _ ?_; clear hK K
  refine wpF_want HP.out HG.out rfl rfl (fun fct hp hf K hK => ?_); go_big_quiet_op; refine ⟨_, fun _ => rfl, ?_⟩; clear hp hf fct; refine hK _ ?_; clear hK K
  refine wpF_want HP.out HG.out rfl rfl (fun fct hp hf K hK => ?_); go_big_quiet_op; clear hp hf fct; refine hK _ ?_; clear hK K
  refine wpF_want HP.out HG.out rfl rfl (fun fct hp hf K hK => ?_); go_big_quiet_op; refine ⟨_, fun _ => rfl, ?_⟩; clear hp hf fct; refine hK _ ?_; clear hK K
  refine wpF_want HP.out HG.out rfl rfl (fun fct hp hf K hK => ?_); go_big_quiet_op; refine ⟨_, fun _ => rfl, ?_⟩; clear hp hf fct; refine hK _ ?_; clear hK K
  refine wpF_want HP.out HG.out rfl rfl (fun fct hp hf K hK => ?_); go_big_quiet_op; apply Exists.intro; refine ⟨fun g => ?_, ?_⟩; (go_at_call 14; with_reducible refine LaterF.call hp (HWba.out _))
  clear hp hf fct; refine hK _ ?_; clear hK K
  refine wpF_want HP.out HG.out rfl rfl (fun fct hp hf K hK => ?_); go_big_quiet_op; clear hp hf fct; refine hK _ ?_; clear hK K
  refine wpF_skip rfl rfl ?_
  simp only [Act.put, List.setIfInBounds_toArray, List.set_cons_succ, List.set_cons_zero]
  refine wpF_skip rfl rfl ?_
  simp only [Act.put, List.setIfInBounds_toArray, List.set_cons_succ, List.set_cons_zero]
  refine wpF_skip rfl rfl ?_
  simp only [Act.put, List.setIfInBounds_toArray, List.set_cons_succ, List.set_cons_zero]
  refine wpF_want HP.out HG.out rfl rfl (fun fct hp hf K hK => ?_); go_big_quiet_op; refine ⟨_, fun _ => rfl, ?_⟩; clear hp hf fct; refine hK _ ?_; clear hK K
  refine wpF_want HP.out HG.out rfl rfl (fun fct hp hf K hK => ?_); go_big_quiet_op; refine ⟨_, fun _ => rfl, ?_⟩; clear hp hf fct; refine hK _ ?_; clear hK K
  refine wpF_want HP.out HG.out rfl rfl (fun fct hp hf K hK => ?_); go_big_quiet_op; refine ⟨_, fun _ => rfl, ?_⟩; clear hp hf fct; refine hK _ ?_; clear hK K
  refine wpF_nil ?_
  rintro w' ⟨g, rfl⟩
  exact hQ.out _ _ _ _ _ _ _ _ _ _ _ _ _ _ _ _ _ _ _ _ _ _ _ _ _ g.keep
set_option maxHeartbeats 4000000 in
set_option maxRecDepth 100000 in
theorem more_reg2 (u0 u1 u2 u3 u4 u8 u9 u10 u11 u12 u13 u14 u15 u16 u17 u18 u19 u20 u21 u22 u23 u24 u25 u26 u27 u28 u29 u30 u31 u32 u33 u34 u35 u36 u37 u38 u39 u40 u41 u42 u43 u44 u45 u46 u47 u48 u49 u50 u51 u52 u53 u54 u55 u56 u57 u58 u59 u60 u61 u62 u63 u64 u65 u66 u67 u68 u69 u70 u71 u72 u73 : Value) (q5 q6 q7 : Nat) (A B D : C) (w : World) (Q : Exit → Act → World → Prop) (h5 : Hid (IsC w q5 A)) (h6 : Hid (IsC w q6 B)) (h7 : Hid (IsC w q7 D)) (X Y : C) (HWab : Hid (∀ w, Calls Try.prog 14 #[.agg #[.int .i64 A.n, .int .i64 A.s, .int .i64 A.v0, .int .i64 A.v1, .bool A.gone, .string A.value, .int .i64 A.d0, .int .i64 A.d1], .agg #[.int .i64 B.n, .int .i64 B.s, .int .i64 B.v0, .int .i64 B.v1, .bool B.gone, .string B.value, .int .i64 B.d0, .int .i64 B.d1]] w fun e w' => e = .returned (.bool true) ∧ Keep (fun _ => False) w w')) (HJad : Hid (∀ (v : Value) (w : World), FS A D v w → Calls Try.prog 12 #[v] w fun e w' => e = .returned (.agg #[.int .i64 X.n, .int .i64 X.s, .int .i64 X.v0, .int .i64 X.v1, .bool X.gone, .string X.value, .int .i64 X.d0, .int .i64 X.d1]) ∧ Keep (fun _ => False) w w')) (HJbd : Hid (∀ (v : Value) (w : World), FS B D v w → Calls Try.prog 12 #[v] w fun e w' => e = .returned (.agg #[.int .i64 Y.n, .int .i64 Y.s, .int .i64 Y.v0, .int .i64 Y.v1, .bool Y.gone, .string Y.value, .int .i64 Y.d0, .int .i64 Y.d1]) ∧ Keep (fun _ => False) w w')) (HWj : Hid (∀ w, Calls Try.prog 14 #[.agg #[.int .i64 X.n, .int .i64 X.s, .int .i64 X.v0, .int .i64 X.v1, .bool X.gone, .string X.value, .int .i64 X.d0, .int .i64 X.d1], .agg #[.int .i64 Y.n, .int .i64 Y.s, .int .i64 Y.v0, .int .i64 Y.v1, .bool Y.gone, .string Y.value, .int .i64 Y.d0, .int .i64 Y.d1]] w fun e w' => e = .returned (.bool true) ∧ Keep (fun _ => False) w w')) (HWba : Hid (∀ w, Calls Try.prog 14 #[.agg #[.int .i64 B.n, .int .i64 B.s, .int .i64 B.v0, .int .i64 B.v1, .bool B.gone, .string B.value, .int .i64 B.d0, .int .i64 B.d1], .agg #[.int .i64 A.n, .int .i64 A.s, .int .i64 A.v0, .int .i64 A.v1, .bool A.gone, .string A.value, .int .i64 A.d0, .int .i64 A.d1]] w fun e w' => e = .returned (.bool true) ∧ Keep (fun _ => False) w w')) (hAB : decide (A = B) = true)
    (hQ : Hid (∀ x31 x32 x33 x34 x35 x36 x37 x38 x39 x40 x41 x42 x43 x44 x45 x46 x47 x48 x49 x50 x51 x52 x53 x54 w', Keep (fun _ => False) w w' → Q .normal ⟨(u0 :: u1 :: u2 :: u3 :: u4 :: .pointer (some ⟨q5, 0, none⟩) :: .pointer (some ⟨q6, 0, none⟩) :: .pointer (some ⟨q7, 0, none⟩) :: u8 :: u9 :: u10 :: u11 :: u12 :: u13 :: u14 :: u15 :: u16 :: u17 :: u18 :: u19 :: u20 :: u21 :: u22 :: u23 :: u24 :: u25 :: u26 :: u27 :: u28 :: u29 :: u30 :: x31 :: x32 :: x33 :: x34 :: x35 :: x36 :: x37 :: x38 :: x39 :: x40 :: x41 :: x42 :: x43 :: x44 :: x45 :: x46 :: x47 :: x48 :: x49 :: x50 :: x51 :: x52 :: x53 :: x54 :: .bool false :: u56 :: u57 :: u58 :: u59 :: u60 :: u61 :: u62 :: u63 :: u64 :: u65 :: u66 :: u67 :: u68 :: u69 :: u70 :: u71 :: u72 :: u73 :: []).toArray, []⟩ w')) : Code.wp Try.prog moreReg Q ⟨(u0 :: u1 :: u2 :: u3 :: u4 :: .pointer (some ⟨q5, 0, none⟩) :: .pointer (some ⟨q6, 0, none⟩) :: .pointer (some ⟨q7, 0, none⟩) :: u8 :: u9 :: u10 :: u11 :: u12 :: u13 :: u14 :: u15 :: u16 :: u17 :: u18 :: u19 :: u20 :: u21 :: u22 :: u23 :: u24 :: u25 :: u26 :: u27 :: u28 :: u29 :: u30 :: u31 :: u32 :: u33 :: u34 :: u35 :: u36 :: u37 :: u38 :: u39 :: u40 :: u41 :: u42 :: u43 :: u44 :: u45 :: u46 :: u47 :: u48 :: u49 :: u50 :: u51 :: u52 :: u53 :: u54 :: u55 :: u56 :: u57 :: u58 :: u59 :: u60 :: u61 :: u62 :: u63 :: u64 :: u65 :: u66 :: u67 :: u68 :: u69 :: u70 :: u71 :: u72 :: u73 :: []).toArray, []⟩ w := by
  conv => arg 2; whnf
  have g5 : q5 < w.heap.size := lt_of_block h5.out
  have g6 : q6 < w.heap.size := lt_of_block h6.out
  have g7 : q7 < w.heap.size := lt_of_block h7.out
  obtain ⟨a0, a1, a2, a3, a4, a5, a6, a7⟩ := h5.out.cells
  obtain ⟨b0, b1, b2, b3, b4, b5, b6, b7⟩ := h6.out.cells
  obtain ⟨d0, d1, d2, d3, d4, d5, d6, d7⟩ := h7.out.cells
  obtain ⟨rc, rf⟩ := LaterF.rules w
  have H27 := fun w => equalIn27 9997 A B w
  simp only [hAB] at H27
  clear hAB
  have HP := Lib.hid (tab_keep (l := [(6, FS A D), (10, FS B D)]) (lasts_cons (fun _ _ _ k h => FS.keep k h) (lasts_cons (fun _ _ _ k h => FS.keep k h) lasts_nil)))
  refine wp_region_walk (tab [(6, FS A D), (10, FS B D)]) (by kernel_rfl) (by kernel_rfl) HP.out ?_
  intro fv G hG
  have HG := Lib.hid hG
  clear hG
  refine wpF_want HP.out HG.out rfl rfl (fun fct hp hf K hK => ?_); go_big_quiet_op; refine ⟨_, fun _ => rfl, ?_⟩; clear hp hf fct; refine hK _ ?_; clear hK K
  refine wpF_want HP.out HG.out rfl rfl (fun fct hp hf K hK => ?_); go_big_quiet_op; refine ⟨_, fun _ => rfl, ?_⟩; clear hp hf fct; refine hK _ ?_; clear hK K
  refine wpF_want HP.out HG.out rfl rfl (fun fct hp hf K hK => ?_); go_big_quiet_op; apply Exists.intro; refine ⟨fun g => ?_, ?_⟩; (go_at_call 14; with_reducible refine LaterF.call hp (HWab.out _))
  clear hp hf fct; refine hK _ ?_; clear hK K
  refine wpF_want HP.out HG.out rfl rfl (fun fct hp hf K hK => ?_); go_big_quiet_op; clear hp hf fct; refine hK _ ?_; clear hK K
  refine wpF_want HP.out HG.out rfl rfl (fun fct hp hf K hK => ?_); go_big_quiet_op; refine ⟨_, fun _ => rfl, ?_⟩; clear hp hf fct; refine hK _ ?_; clear hK K
  refine wpF_want HP.out HG.out rfl rfl (fun fct hp hf K hK => ?_); go_big_quiet_op; refine ⟨_, fun _ => rfl, ?_⟩; clear hp hf fct; refine hK _ ?_; clear hK K
  refine wpF_make HP.out HG.out rfl rfl (fun fct hp hf g => ?_) ?_
  · clear hQ
    simp [go_sem, makesUpon]
    exact ⟨⟨_, rfl, new_at _ _ _ _ rfl⟩, Keep.alloc _ _ _⟩
  simp only [Act.put, List.setIfInBounds_toArray, List.set_cons_succ, List.set_cons_zero]
  refine wpF_want HP.out HG.out rfl rfl (fun fct hp hf K hK => ?_); go_big_quiet_op; apply Exists.intro; refine ⟨fun g => ?_, ?_⟩; (go_at_call 12; with_reducible refine LaterF.call hp (HJad.out _ _ ((hf.out _ g.fact).slot 6 37 rfl rfl (by decide))))
  clear hp hf fct; refine hK _ ?_; clear hK K
  refine wpF_want HP.out HG.out rfl rfl (fun fct hp hf K hK => ?_); go_big_quiet_op; refine ⟨_, fun _ => rfl, ?_⟩; clear hp hf fct; refine hK _ ?_; clear hK K
  refine wpF_want HP.out HG.out rfl rfl (fun fct hp hf K hK => ?_); go_big_quiet_op; refine ⟨_, fun _ => rfl, ?_⟩; clear hp hf fct; refine hK _ ?_; clear hK K
  refine wpF_make HP.out HG.out rfl rfl (fun fct hp hf g => ?_) ?_
  · clear hQ
    simp [go_sem, makesUpon]
    exact ⟨⟨_, rfl, new_at _ _ _ _ rfl⟩, Keep.alloc _ _ _⟩
  simp only [Act.put, List.setIfInBounds_toArray, List.set_cons_succ, List.set_cons_zero]
  refine wpF_want HP.out HG.out rfl rfl (fun fct hp hf K hK => ?_); go_big_quiet_op; apply Exists.intro; refine ⟨fun g => ?_, ?_⟩; (go_at_call 12; with_reducible refine LaterF.call hp (HJbd.out _ _ ((hf.out _ g.fact).slot 10 41 rfl rfl (by decide))))
  clear hp hf fct; refine hK _ ?_; clear hK K
  refine wpF_want HP.out HG.out rfl rfl (fun fct hp hf K hK => ?_); go_big_quiet_op; apply Exists.intro; refine ⟨fun g => ?_, ?_⟩; (go_at_call 14; with_reducible refine LaterF.call hp (HWj.out _))
  clear hp hf fct; refine hK _ ?_; clear hK K
  refine wpF_want HP.out HG.out rfl rfl (fun fct hp hf K hK => ?_); go_big_quiet_op; refine ⟨_, fun _ => rfl, ?_⟩; clear hp hf fct; refine hK _ ?_; clear hK K
  refine wpF_want HP.out HG.out rfl rfl (fun fct hp hf K hK => ?_); go_big_quiet_op; clear hp hf fct; refine hK _ ?_; clear hK K
  refine wpF_want HP.out HG.out rfl rfl (fun fct hp hf K hK => ?_); go_big_quiet_op; refine ⟨_, fun _ => rfl, ?_⟩; clear hp hf fct; refine hK _ ?_; clear hK K
  refine wpF_want HP.out HG.out rfl rfl (fun fct hp hf K hK => ?_); go_big_quiet_op; refine ⟨_, fun _ => rfl, ?_⟩; clear hp hf fct; refine hK _ ?_; clear hK K
  refine wpF_want HP.out HG.out rfl rfl (fun fct hp hf K hK => ?_); go_big_quiet_op; apply Exists.intro; refine ⟨fun g => ?_, ?_⟩; (go_at_call 14; with_reducible refine LaterF.call hp (HWba.out _))
  clear hp hf fct; refine hK _ ?_; clear hK K
  refine wpF_want HP.out HG.out rfl rfl (fun fct hp hf K hK => ?_); go_big_quiet_op; clear hp hf fct; refine hK _ ?_; clear hK K
  refine wpF_want HP.out HG.out rfl rfl (fun fct hp hf K hK => ?_); go_big_quiet_op; refine ⟨_, fun _ => rfl, ?_⟩; clear hp hf fct; refine hK _ ?_; clear hK K
  refine wpF_want HP.out HG.out rfl rfl (fun fct hp hf K hK => ?_); go_big_quiet_op; refine ⟨_, fun _ => rfl, ?_⟩; clear hp hf fct; refine hK _ ?_; clear hK K
  refine wpF_want HP.out HG.out rfl rfl (fun fct hp hf K hK => ?_); go_big_quiet_op; refine ⟨_, fun _ => rfl, ?_⟩; clear hp hf fct; refine hK _ ?_; clear hK K
  refine wpF_want HP.out HG.out rfl rfl (fun fct hp hf K hK => ?_); go_big_quiet_op; refine ⟨_, fun _ => rfl, ?_⟩; clear hp hf fct; refine hK _ ?_; clear hK K
  refine wpF_want HP.out HG.out rfl rfl (fun fct hp hf K hK => ?_); go_big_quiet_op; refine ⟨_, fun _ => rfl, ?_⟩; clear hp hf fct; refine hK _ ?_; clear hK K
  refine wpF_want HP.out HG.out rfl rfl (fun fct hp hf K hK => ?_); go_big_quiet_op; refine ⟨_, fun _ => rfl, ?_⟩; clear hp hf fct; refine hK _ ?_; clear hK K
  refine wpF_nil ?_
  rintro w' ⟨g, rfl⟩
  exact hQ.out _ _ _ _ _ _ _ _ _ _ _ _ _ _ _ _ _ _ _ _ _ _ _ _ _ g.keep
end Go.Proofs.Ytfoklfifgmacfaa
