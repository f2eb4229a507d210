/- The region of JoinLattice that joins and compares: whatever order. -/
import Derived.Test.YtfoklfifgmacfaaMR
namespace Go.Proofs.Ytfoklfifgmacfaa
open Go.RowKit
/-- A slice of three cells, of one, made anew. -/
def FT (x y z : C) (v : Value) (w : World) : Prop := ∃ b, v = .slice (some ⟨b, 0, none⟩) 3 3 ∧ w.heap[b]? = some (.cells #[.int .i64 x.n, .int .i64 x.s, .int .i64 x.v0, .int .i64 x.v1, .bool x.gone, .string x.value, .int .i64 x.d0, .int .i64 x.d1, .int .i64 y.n, .int .i64 y.s, .int .i64 y.v0, .int .i64 y.v1, .bool y.gone, .string y.value, .int .i64 y.d0, .int .i64 y.d1, .int .i64 z.n, .int .i64 z.s, .int .i64 z.v0, .int .i64 z.v1, .bool z.gone, .string z.value, .int .i64 z.d0, .int .i64 z.d1] 27 (0, 0))
def FO (x : C) (v : Value) (w : World) : Prop := ∃ b, v = .slice (some ⟨b, 0, none⟩) 1 1 ∧ w.heap[b]? = some (.cells #[.int .i64 x.n, .int .i64 x.s, .int .i64 x.v0, .int .i64 x.v1, .bool x.gone, .string x.value, .int .i64 x.d0, .int .i64 x.d1] 27 (0, 0))
theorem FT.keep {x y z : C} {v : Value} {w w' : World} (k : Keep (fun _ => False) w w') (h : FT x y z v w) : FT x y z v w' := by
  obtain ⟨b, rfl, hb⟩ := h
  exact ⟨b, rfl, k.heap hb (fun h => h)⟩
theorem FO.keep {x : C} {v : Value} {w w' : World} (k : Keep (fun _ => False) w w') (h : FO x v w) : FO x v w' := by
  obtain ⟨b, rfl, hb⟩ := h
  exact ⟨b, rfl, k.heap hb (fun h => h)⟩
theorem FT.join {x y z : C} {v : Value} {w : World} (h : FT x y z v w) : Calls Try.prog 12 #[v] w fun e w' => e = .returned (.agg #[.int .i64 (C.join [x, y, z]).n, .int .i64 (C.join [x, y, z]).s, .int .i64 (C.join [x, y, z]).v0, .int .i64 (C.join [x, y, z]).v1, .bool (C.join [x, y, z]).gone, .string (C.join [x, y, z]).value, .int .i64 (C.join [x, y, z]).d0, .int .i64 (C.join [x, y, z]).d1]) ∧ Keep (fun _ => False) w w' := by
  obtain ⟨b, rfl, hb⟩ := h
  exact join_c3 x y z b w hb
theorem FO.join {x : C} {v : Value} {w : World} (h : FO x v w) : Calls Try.prog 12 #[v] w fun e w' => e = .returned (.agg #[.int .i64 (C.join [x]).n, .int .i64 (C.join [x]).s, .int .i64 (C.join [x]).v0, .int .i64 (C.join [x]).v1, .bool (C.join [x]).gone, .string (C.join [x]).value, .int .i64 (C.join [x]).d0, .int .i64 (C.join [x]).d1]) ∧ Keep (fun _ => False) w w' := by
  obtain ⟨b, rfl, hb⟩ := h
  exact join_c1 x b w hb

noncomputable def latReg : Code := ((Try.f4.body.bind (findRegion 5)).getD .skip)
set_option maxHeartbeats 8000000 in
set_option maxRecDepth 100000 in
theorem lat_reg (u0 u1 u2 u3 u4 u9 u10 u11 u12 u13 u14 u15 u16 u17 u18 u19 u20 u21 u22 u23 u24 u25 u26 u27 u28 u29 u30 u31 u32 u33 u34 u35 u36 u37 u38 u39 u40 u41 u42 u43 u44 u45 u46 u47 u48 u49 u50 u51 u52 u53 u54 u55 u56 u57 u58 u59 u60 u61 u62 u63 u64 u65 u66 u67 u68 u69 u70 u71 u72 u73 u74 u75 u76 u77 u78 u79 u80 u81 u82 u83 u84 u85 u86 u87 u88 u89 u90 u91 u92 u93 u94 u95 u96 u97 u98 u99 u100 u101 u102 u103 u104 u105 u106 u107 u108 u109 : Value) (q5 q6 q7 q8 : Nat) (A B D J K M Y : C) (w : World) (Q : Exit → Act → World → Prop) (h5 : Hid (IsC w q5 A)) (h6 : Hid (IsC w q6 B)) (h7 : Hid (IsC w q7 D)) (h8 : Hid (IsC w q8 J)) (HC3 : Hid (∀ (v : Value) (w : World), FS B A v w → Calls Try.prog 12 #[v] w fun e w' => e = .returned (.agg #[.int .i64 J.n, .int .i64 J.s, .int .i64 J.v0, .int .i64 J.v1, .bool J.gone, .string J.value, .int .i64 J.d0, .int .i64 J.d1]) ∧ Keep (fun _ => False) w w')) (HC9 : Hid (∀ (v : Value) (w : World), FS J D v w → Calls Try.prog 12 #[v] w fun e w' => e = .returned (.agg #[.int .i64 K.n, .int .i64 K.s, .int .i64 K.v0, .int .i64 K.v1, .bool K.gone, .string K.value, .int .i64 K.d0, .int .i64 K.d1]) ∧ Keep (fun _ => False) w w')) (HC14 : Hid (∀ (v : Value) (w : World), FS B D v w → Calls Try.prog 12 #[v] w fun e w' => e = .returned (.agg #[.int .i64 M.n, .int .i64 M.s, .int .i64 M.v0, .int .i64 M.v1, .bool M.gone, .string M.value, .int .i64 M.d0, .int .i64 M.d1]) ∧ Keep (fun _ => False) w w')) (HC16 : Hid (∀ (v : Value) (w : World), FS A M v w → Calls Try.prog 12 #[v] w fun e w' => e = .returned (.agg #[.int .i64 K.n, .int .i64 K.s, .int .i64 K.v0, .int .i64 K.v1, .bool K.gone, .string K.value, .int .i64 K.d0, .int .i64 K.d1]) ∧ Keep (fun _ => False) w w')) (HC24 : Hid (∀ (v : Value) (w : World), FT A B D v w → Calls Try.prog 12 #[v] w fun e w' => e = .returned (.agg #[.int .i64 Y.n, .int .i64 Y.s, .int .i64 Y.v0, .int .i64 Y.v1, .bool Y.gone, .string Y.value, .int .i64 Y.d0, .int .i64 Y.d1]) ∧ Keep (fun _ => False) w w')) (HC29 : Hid (∀ (v : Value) (w : World), FT D B A v w → Calls Try.prog 12 #[v] w fun e w' => e = .returned (.agg #[.int .i64 Y.n, .int .i64 Y.s, .int .i64 Y.v0, .int .i64 Y.v1, .bool Y.gone, .string Y.value, .int .i64 Y.d0, .int .i64 Y.d1]) ∧ Keep (fun _ => False) w w')) (HC36 : Hid (∀ (v : Value) (w : World), FS A A v w → Calls Try.prog 12 #[v] w fun e w' => e = .returned (.agg #[.int .i64 A.n, .int .i64 A.s, .int .i64 A.v0, .int .i64 A.v1, .bool A.gone, .string A.value, .int .i64 A.d0, .int .i64 A.d1]) ∧ Keep (fun _ => False) w w')) (HC43 : Hid (∀ (v : Value) (w : World), FO A v w → Calls Try.prog 12 #[v] w fun e w' => e = .returned (.agg #[.int .i64 A.n, .int .i64 A.s, .int .i64 A.v0, .int .i64 A.v1, .bool A.gone, .string A.value, .int .i64 A.d0, .int .i64 A.d1]) ∧ Keep (fun _ => False) w w')) (HCN : Hid (∀ w, Calls Try.prog 12 #[.slice none 0 0] w fun e w' => e = .returned (.agg #[.int .i64 0, .int .i64 0, .int .i64 0, .int .i64 0, .bool false, .string ⟨#[]⟩, .int .i64 0, .int .i64 0]) ∧ Keep (fun _ => False) w w'))
    (hQ : Hid (∀ x36 x37 x38 x39 x40 x41 x42 x43 x44 x45 x46 x47 x48 x49 x50 x51 x52 x53 x54 x55 x56 x57 x58 x59 x60 x61 x62 x63 x64 x65 x66 x67 x68 x69 x70 x71 x72 x73 x74 x75 x76 x77 x78 x79 x80 x81 x82 x83 x84 x85 x86 x87 w', Keep (fun _ => False) w w' → Q .normal ⟨(u0 :: u1 :: u2 :: u3 :: u4 :: .pointer (some ⟨q5, 0, none⟩) :: .pointer (some ⟨q6, 0, none⟩) :: .pointer (some ⟨q7, 0, none⟩) :: .pointer (some ⟨q8, 0, none⟩) :: u9 :: u10 :: u11 :: u12 :: u13 :: u14 :: u15 :: u16 :: u17 :: u18 :: u19 :: u20 :: u21 :: u22 :: u23 :: u24 :: u25 :: u26 :: u27 :: u28 :: u29 :: u30 :: u31 :: u32 :: u33 :: u34 :: u35 :: x36 :: x37 :: x38 :: x39 :: x40 :: x41 :: x42 :: x43 :: x44 :: x45 :: x46 :: x47 :: x48 :: x49 :: x50 :: x51 :: x52 :: x53 :: x54 :: x55 :: x56 :: x57 :: x58 :: x59 :: x60 :: x61 :: x62 :: x63 :: x64 :: x65 :: x66 :: x67 :: x68 :: x69 :: x70 :: x71 :: x72 :: x73 :: x74 :: x75 :: x76 :: x77 :: x78 :: x79 :: x80 :: x81 :: x82 :: x83 :: x84 :: x85 :: x86 :: x87 :: .bool false :: u89 :: u90 :: u91 :: u92 :: u93 :: u94 :: u95 :: u96 :: u97 :: u98 :: u99 :: u100 :: u101 :: u102 :: u103 :: u104 :: u105 :: u106 :: u107 :: u108 :: u109 :: []).toArray, []⟩ w')) : Code.wp Try.prog latReg Q ⟨(u0 :: u1 :: u2 :: u3 :: u4 :: .pointer (some ⟨q5, 0, none⟩) :: .pointer (some ⟨q6, 0, none⟩) :: .pointer (some ⟨q7, 0, none⟩) :: .pointer (some ⟨q8, 0, none⟩) :: u9 :: u10 :: u11 :: u12 :: u13 :: u14 :: u15 :: u16 :: u17 :: u18 :: u19 :: u20 :: u21 :: u22 :: u23 :: u24 :: u25 :: u26 :: u27 :: u28 :: u29 :: u30 :: u31 :: u32 :: u33 :: u34 :: u35 :: u36 :: u37 :: u38 :: u39 :: u40 :: u41 :: u42 :: u43 :: u44 :: u45 :: u46 :: u47 :: u48 :: u49 :: u50 :: u51 :: u52 :: u53 :: u54 :: u55 :: u56 :: u57 :: u58 :: u59 :: u60 :: u61 :: u62 :: u63 :: u64 :: u65 :: u66 :: u67 :: u68 :: u69 :: u70 :: u71 :: u72 :: u73 :: u74 :: u75 :: u76 :: u77 :: u78 :: u79 :: u80 :: u81 :: u82 :: u83 :: u84 :: u85 :: u86 :: u87 :: u88 :: u89 :: u90 :: u91 :: u92 :: u93 :: u94 :: u95 :: u96 :: u97 :: u98 :: u99 :: u100 :: u101 :: u102 :: u103 :: u104 :: u105 :: u106 :: u107 :: u108 :: u109 :: []).toArray, []⟩ w := by
  conv => arg 2; whnf
  have g5 : q5 < w.heap.size := lt_of_block h5.out
  have g6 : q6 < w.heap.size := lt_of_block h6.out
  have g7 : q7 < w.heap.size := lt_of_block h7.out
  have g8 : q8 < w.heap.size := lt_of_block h8.out
  obtain ⟨a0, a1, a2, a3, a4, a5, a6, a7⟩ := h5.out.cells
  obtain ⟨b0, b1, b2, b3, b4, b5, b6, b7⟩ := h6.out.cells
  obtain ⟨d0, d1, d2, d3, d4, d5, d6, d7⟩ := h7.out.cells
  obtain ⟨j0, j1, j2, j3, j4, j5, j6, j7⟩ := h8.out.cells
  obtain ⟨rc, rf⟩ := LaterF.rules w
  have HA := fun w => equalIn27 9997 A A w
  have HJ := fun w => equalIn27 9997 J J w
  have HK := fun w => equalIn27 9997 K K w
  have HY := fun w => equalIn27 9997 Y Y w
  have HZ := fun w => equalIn27 9997 ⟨0, 0, 0, 0, false, ⟨#[]⟩, 0, 0⟩ ⟨0, 0, 0, 0, false, ⟨#[]⟩, 0, 0⟩ w
  simp only [decide_true] at HA HJ HK HY HZ
  have HP := Lib.hid (tab_keep (l := [(3, FS B A), (9, FS J D), (14, FS B D), (16, FS A M), (24, FT A B D), (29, FT D B A), (36, FS A A), (43, FO A)]) (lasts_cons (fun _ _ _ k h => FS.keep k h) (lasts_cons (fun _ _ _ k h => FS.keep k h) (lasts_cons (fun _ _ _ k h => FS.keep k h) (lasts_cons (fun _ _ _ k h => FS.keep k h) (lasts_cons (fun _ _ _ k h => FT.keep k h) (lasts_cons (fun _ _ _ k h => FT.keep k h) (lasts_cons (fun _ _ _ k h => FS.keep k h) (lasts_cons (fun _ _ _ k h => FO.keep k h) (lasts_nil))))))))))
  refine wp_region_walk (tab [(3, FS B A), (9, FS J D), (14, FS B D), (16, FS A M), (24, FT A B D), (29, FT D B A), (36, FS A A), (43, FO A)]) (by kernel_rfl) (by kernel_rfl) HP.out ?_
  intro fv G hG
  have HG := Lib.hid hG
  clear hG
  refine wpF_want HP.out HG.out rfl rfl (fun fct hp hf K' hK' => ?_); go_big_quiet_op; refine ⟨_, fun _ => rfl, ?_⟩; clear hp hf fct; refine hK' _ ?_; clear hK' K'
  refine wpF_want HP.out HG.out rfl rfl (fun fct hp hf K' hK' => ?_); go_big_quiet_op; refine ⟨_, fun _ => rfl, ?_⟩; clear hp hf fct; refine hK' _ ?_; clear hK' K'
  refine wpF_want HP.out HG.out rfl rfl (fun fct hp hf K' hK' => ?_); go_big_quiet_op; refine ⟨_, fun _ => rfl, ?_⟩; clear hp hf fct; refine hK' _ ?_; clear hK' K'
  refine wpF_make HP.out HG.out rfl rfl (fun fct hp hf g => ?_) ?_
  · clear hQ
    simp [go_sem, makesUpon]
    exact ⟨⟨_, rfl, new_at _ _ _ _ rfl⟩, Keep.alloc _ _ _⟩
  simp only [Act.put, List.setIfInBounds_toArray, List.set_cons_succ, List.set_cons_zero]
  refine wpF_want HP.out HG.out rfl rfl (fun fct hp hf K' hK' => ?_); go_big_quiet_op; apply Exists.intro; refine ⟨fun g => ?_, ?_⟩; (go_at_call 12; with_reducible refine LaterF.call hp (HC3.out _ _ ((hf.out _ g.fact).slot 3 39 rfl rfl (by decide))))
  clear hp hf fct; refine hK' _ ?_; clear hK' K'
  refine wpF_want HP.out HG.out rfl rfl (fun fct hp hf K' hK' => ?_); go_big_quiet_op; refine ⟨_, fun _ => rfl, ?_⟩; clear hp hf fct; refine hK' _ ?_; clear hK' K'
  refine wpF_want HP.out HG.out rfl rfl (fun fct hp hf K' hK' => ?_); go_big_quiet_op; clear hp hf fct; refine hK' _ ?_; clear hK' K'
  refine wpF_want HP.out HG.out rfl rfl (fun fct hp hf K' hK' => ?_); go_big_quiet_op; refine ⟨_, fun _ => rfl, ?_⟩; clear hp hf fct; refine hK' _ ?_; clear hK' K'
  refine wpF_want HP.out HG.out rfl rfl (fun fct hp hf K' hK' => ?_); go_big_quiet_op; refine ⟨_, fun _ => rfl, ?_⟩; clear hp hf fct; refine hK' _ ?_; clear hK' K'
  refine wpF_make HP.out HG.out rfl rfl (fun fct hp hf g => ?_) ?_
  · clear hQ
    simp [go_sem, makesUpon]
    exact ⟨⟨_, rfl, new_at _ _ _ _ rfl⟩, Keep.alloc _ _ _⟩
  simp only [Act.put, List.setIfInBounds_toArray, List.set_cons_succ, List.set_cons_zero]
  refine wpF_want HP.out HG.out rfl rfl (fun fct hp hf K' hK' => ?_); go_big_quiet_op; apply Exists.intro; refine ⟨fun g => ?_, ?_⟩; (go_at_call 12; with_reducible refine LaterF.call hp (HC9.out _ _ ((hf.out _ g.fact).slot 9 45 rfl rfl (by decide))))
  clear hp hf fct; refine hK' _ ?_; clear hK' K'
  refine wpF_want HP.out HG.out rfl rfl (fun fct hp hf K' hK' => ?_); go_big_quiet_op; refine ⟨_, fun _ => rfl, ?_⟩; clear hp hf fct; refine hK' _ ?_; clear hK' K'
  refine wpF_want HP.out HG.out rfl rfl (fun fct hp hf K' hK' => ?_); go_big_quiet_op; refine ⟨_, fun _ => rfl, ?_⟩; clear hp hf fct; refine hK' _ ?_; clear hK' K'
  refine wpF_want HP.out HG.out rfl rfl (fun fct hp hf K' hK' => ?_); go_big_quiet_op; refine ⟨_, fun _ => rfl, ?_⟩; clear hp hf fct; refine hK' _ ?_; clear hK' K'
  refine wpF_make HP.out HG.out rfl rfl (fun fct hp hf g => ?_) ?_
  · clear hQ
    simp [go_sem, makesUpon]
    exact ⟨⟨_, rfl, new_at _ _ _ _ rfl⟩, Keep.alloc _ _ _⟩
  simp only [Act.put, List.setIfInBounds_toArray, List.set_cons_succ, List.set_cons_zero]
  refine wpF_want HP.out HG.out rfl rfl (fun fct hp hf K' hK' => ?_); go_big_quiet_op; apply Exists.intro; refine ⟨fun g => ?_, ?_⟩; (go_at_call 12; with_reducible refine LaterF.call hp (HC14.out _ _ ((hf.out _ g.fact).slot 14 50 rfl rfl (by decide))))
  clear hp hf fct; refine hK' _ ?_; clear hK' K'
  refine wpF_make HP.out HG.out rfl rfl (fun fct hp hf g => ?_) ?_
  · clear hQ
    simp [go_sem, makesUpon]
    exact ⟨⟨_, rfl, new_at _ _ _ _ rfl⟩, Keep.alloc _ _ _⟩
  simp only [Act.put, List.setIfInBounds_toArray, List.set_cons_succ, List.set_cons_zero]
  refine wpF_want HP.out HG.out rfl rfl (fun fct hp hf K' hK' => ?_); go_big_quiet_op; apply Exists.intro; refine ⟨fun g => ?_, ?_⟩; (go_at_call 12; with_reducible refine LaterF.call hp (HC16.out _ _ ((hf.out _ g.fact).slot 16 52 rfl rfl (by decide))))
  clear hp hf fct; refine hK' _ ?_; clear hK' K'
  refine wpF_want HP.out HG.out rfl rfl (fun fct hp hf K' hK' => ?_); go_big_quiet_op; refine ⟨_, fun _ => rfl, ?_⟩; clear hp hf fct; refine hK' _ ?_; clear hK' K'
  refine wpF_want HP.out HG.out rfl rfl (fun fct hp hf K' hK' => ?_); go_big_quiet_op; refine ⟨_, fun _ => rfl, ?_⟩; clear hp hf fct; refine hK' _ ?_; clear hK' K'
  refine wpF_want HP.out HG.out rfl rfl (fun fct hp hf K' hK' => ?_); go_big_quiet_op; clear hp hf fct; refine hK' _ ?_; clear hK' K'
  refine wpF_want HP.out HG.out rfl rfl (fun fct hp hf K' hK' => ?_); go_big_quiet_op; refine ⟨_, fun _ => rfl, ?_⟩; clear hp hf fct; refine hK' _ ?_; clear hK' K'
  refine wpF_want HP.out HG.out rfl rfl (fun fct hp hf K' hK' => ?_); go_big_quiet_op; refine ⟨_, fun _ => rfl, ?_⟩; clear hp hf fct; refine hK' _ ?_; clear hK' K'
  refine wpF_want HP.out HG.out rfl rfl (fun fct hp hf K' hK' => ?_); go_big_quiet_op; refine ⟨_, fun _ => rfl, ?_⟩; clear hp hf fct; refine hK' _ ?_; clear hK' K'
  refine wpF_make HP.out HG.out rfl rfl (fun fct hp hf g => ?_) ?_
  · clear hQ
    simp [go_sem, makesUpon]
    exact ⟨⟨_, rfl, new_at _ _ _ _ rfl⟩, Keep.alloc _ _ _⟩
  simp only [Act.put, List.setIfInBounds_toArray, List.set_cons_succ, List.set_cons_zero]
  refine wpF_want HP.out HG.out rfl rfl (fun fct hp hf K' hK' => ?_); go_big_quiet_op; apply Exists.intro; refine ⟨fun g => ?_, ?_⟩; (go_at_call 12; with_reducible refine LaterF.call hp (HC24.out _ _ ((hf.out _ g.fact).slot 24 60 rfl rfl (by decide))))
  clear hp hf fct; refine hK' _ ?_; clear hK' K'
  refine wpF_want HP.out HG.out rfl rfl (fun fct hp hf K' hK' => ?_); go_big_quiet_op; refine ⟨_, fun _ => rfl, ?_⟩; clear hp hf fct; refine hK' _ ?_; clear hK' K'
  refine wpF_want HP.out HG.out rfl rfl (fun fct hp hf K' hK' => ?_); go_big_quiet_op; refine ⟨_, fun _ => rfl, ?_⟩; clear hp hf fct; refine hK' _ ?_; clear hK' K'
  refine wpF_want HP.out HG.out rfl rfl (fun fct hp hf K' hK' => ?_); go_big_quiet_op; refine ⟨_, fun _ => rfl, ?_⟩; clear hp hf fct; refine hK' _ ?_; clear hK' K'
  refine wpF_make HP.out HG.out rfl rfl (fun fct hp hf g => ?_) ?_
  · clear hQ
    simp [go_sem, makesUpon]
    exact ⟨⟨_, rfl, new_at _ _ _ _ rfl⟩, Keep.alloc _ _ _⟩
  simp only [Act.put, List.setIfInBounds_toArray, List.set_cons_succ, List.set_cons_zero]
  refine wpF_want HP.out HG.out rfl rfl (fun fct hp hf K' hK' => ?_); go_big_quiet_op; apply Exists.intro; refine ⟨fun g => ?_, ?_⟩; (go_at_call 12; with_reducible refine LaterF.call hp (HC29.out _ _ ((hf.out _ g.fact).slot 29 65 rfl rfl (by decide))))
  clear hp hf fct; refine hK' _ ?_; clear hK' K'
  refine wpF_want HP.out HG.out rfl rfl (fun fct hp hf K' hK' => ?_); go_big_quiet_op; refine ⟨_, fun _ => rfl, ?_⟩; clear hp hf fct; refine hK' _ ?_; clear hK' K'
  refine wpF_want HP.out HG.out rfl rfl (fun fct hp hf K' hK' => ?_); go_big_quiet_op; refine ⟨_, fun _ => rfl, ?_⟩; clear hp hf fct; refine hK' _ ?_; clear hK' K'
  refine wpF_want HP.out HG.out rfl rfl (fun fct hp hf K' hK' => ?_); go_big_quiet_op; clear hp hf fct; refine hK' _ ?_; clear hK' K'
  refine wpF_want HP.out HG.out rfl rfl (fun fct hp hf K' hK' => ?_); go_big_quiet_op; refine ⟨_, fun _ => rfl, ?_⟩; clear hp hf fct; refine hK' _ ?_; clear hK' K'
  refine wpF_want HP.out HG.out rfl rfl (fun fct hp hf K' hK' => ?_); go_big_quiet_op; refine ⟨_, fun _ => rfl, ?_⟩; clear hp hf fct; refine hK' _ ?_; clear hK' K'
  refine wpF_make HP.out HG.out rfl rfl (fun fct hp hf g => ?_) ?_
  · clear hQ
    simp [go_sem, makesUpon]
    exact ⟨⟨_, rfl, new_at _ _ _ _ rfl⟩, Keep.alloc _ _ _⟩
  simp only [Act.put, List.setIfInBounds_toArray, List.set_cons_succ, List.set_cons_zero]
  refine wpF_want HP.out HG.out rfl rfl (fun fct hp hf K' hK' => ?_); go_big_quiet_op; apply Exists.intro; refine ⟨fun g => ?_, ?_⟩; (go_at_call 12; with_reducible refine LaterF.call hp (HC36.out _ _ ((hf.out _ g.fact).slot 36 72 rfl rfl (by decide))))
  clear hp hf fct; refine hK' _ ?_; clear hK' K'
  refine wpF_want HP.out HG.out rfl rfl (fun fct hp hf K' hK' => ?_); go_big_quiet_op; refine ⟨_, fun _ => rfl, ?_⟩; clear hp hf fct; refine hK' _ ?_; clear hK' K'
  refine wpF_want HP.out HG.out rfl rfl (fun fct hp hf K' hK' => ?_); go_big_quiet_op; refine ⟨_, fun _ => rfl, ?_⟩; clear hp hf fct; refine hK' _ ?_; clear hK' K'
  refine wpF_want HP.out HG.out rfl rfl (fun fct hp hf K' hK' => ?_); go_big_quiet_op; refine ⟨_, fun _ => rfl, ?_⟩; clear hp hf fct; refine hK' _ ?_; clear hK' K'
  refine wpF_want HP.out HG.out rfl rfl (fun fct hp hf K' hK' => ?_); go_big_quiet_op; clear hp hf fct; refine hK' _ ?_; clear hK' K'
  refine wpF_want HP.out HG.out rfl rfl (fun fct hp hf K' hK' => ?_); go_big_quiet_op; refine ⟨_, fun _ => rfl, ?_⟩; clear hp hf fct; refine hK' _ ?_; clear hK' K'
  refine wpF_make HP.out HG.out rfl rfl (fun fct hp hf g => ?_) ?_
  · clear hQ
    simp [go_sem, makesUpon]
    exact ⟨⟨_, rfl, new_at _ _ _ _ rfl⟩, Keep.alloc _ _ _⟩
  simp only [Act.put, List.setIfInBounds_toArray, List.set_cons_succ, List.set_cons_zero]
  refine wpF_want HP.out HG.out rfl rfl (fun fct hp hf K' hK' => ?_); go_big_quiet_op; apply Exists.intro; refine ⟨fun g => ?_, ?_⟩; (go_at_call 12; with_reducible refine LaterF.call hp (HC43.out _ _ ((hf.out _ g.fact).slot 43 79 rfl rfl (by decide))))
  clear hp hf fct; refine hK' _ ?_; clear hK' K'
  refine wpF_want HP.out HG.out rfl rfl (fun fct hp hf K' hK' => ?_); go_big_quiet_op; refine ⟨_, fun _ => rfl, ?_⟩; clear hp hf fct; refine hK' _ ?_; clear hK' K'
  refine wpF_want HP.out HG.out rfl rfl (fun fct hp hf K' hK' => ?_); go_big_quiet_op; refine ⟨_, fun _ => rfl, ?_⟩; clear hp hf fct; refine hK' _ ?_; clear hK' K'
  refine wpF_want HP.out HG.out rfl rfl (fun fct hp hf K' hK' => ?_); go_big_quiet_op; refine ⟨_, fun _ => rfl, ?_⟩; clear hp hf fct; refine hK' _ ?_; clear hK' K'
  refine wpF_want HP.out HG.out rfl rfl (fun fct hp hf K' hK' => ?_); go_big_quiet_op; clear hp hf fct; refine hK' _ ?_; clear hK' K'
  refine wpF_want HP.out HG.out rfl rfl (fun fct hp hf K' hK' => ?_); go_big_quiet_op; apply Exists.intro; refine ⟨fun g => ?_, ?_⟩; (go_at_call 12; with_reducible refine LaterF.call hp (HCN.out _))
  clear hp hf fct; refine hK' _ ?_; clear hK' K'
  refine wpF_want HP.out HG.out rfl rfl (fun fct hp hf K' hK' => ?_); go_big_quiet_op; refine ⟨_, fun _ => rfl, ?_⟩; clear hp hf fct; refine hK' _ ?_; clear hK' K'
  refine wpF_want HP.out HG.out rfl rfl (fun fct hp hf K' hK' => ?_); go_big_quiet_op; refine ⟨_, fun _ => rfl, ?_⟩; clear hp hf fct; refine hK' _ ?_; clear hK' K'
  refine wpF_want HP.out HG.out rfl rfl (fun fct hp hf K' hK' => ?_); go_big_quiet_op; refine ⟨_, fun _ => rfl, ?_⟩; clear hp hf fct; refine hK' _ ?_; clear hK' K'
  refine wpF_nil ?_
  rintro w' ⟨g, rfl⟩
  exact hQ.out _ _ _ _ _ _ _ _ _ _ _ _ _ _ _ _ _ _ _ _ _ _ _ _ _ _ _ _ _ _ _ _ _ _ _ _ _ _ _ _ _ _ _ _ _ _ _ _ _ _ _ _ _ g.keep
end Go.Proofs.Ytfoklfifgmacfaa
