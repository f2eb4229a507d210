/- The methods Take, Drop, Twice, walked. -/
import Derived.Test.YthcagpgdekhaeaaN8
namespace Go.Proofs.Ythcagpgdekhaeaa
open Go.RowKit
theorem box3 {w : World} {r : Nat} {A B C : Obj} (hr : w.heap.size = r) : Keep (fun _ => False) w (((w.alloc A).alloc B).alloc C) ∧ (((w.alloc A).alloc B).alloc C).heap[r]? = some A ∧ (((w.alloc A).alloc B).alloc C).heap[r + 1]? = some B ∧ (((w.alloc A).alloc B).alloc C).heap[r + 1 + 1]? = some C ∧ (((w.alloc A).alloc B).alloc C).heap.size = r + 3 := by
  subst hr
  have a1 : (w.alloc A).heap[w.heap.size]? = some A := heap_alloc_new w A
  have b1 : ((w.alloc A).alloc B).heap[w.heap.size + 1]? = some B := by
    have := heap_alloc_new (w.alloc A) B
    simpa using this
  have c1 : (((w.alloc A).alloc B).alloc C).heap[w.heap.size + 1 + 1]? = some C := by
    have := heap_alloc_new ((w.alloc A).alloc B) C
    simpa using this
  have k1 : Keep (fun _ => False) (w.alloc A) ((w.alloc A).alloc B) := Keep.alloc _ _ _
  have k2 : Keep (fun _ => False) ((w.alloc A).alloc B) (((w.alloc A).alloc B).alloc C) := Keep.alloc _ _ _
  exact ⟨((Keep.alloc _ _ _).trans k1).trans k2, (k1.trans k2).heap a1 (fun h => h), k2.heap b1 (fun h => h), c1, by simp⟩
theorem post_end {nb base r t : Nat} {most : Int} {v : Value} {ps' : List Pk} {e0 e1 e2 e3 : Int} {a b : Value} {w X W2 : World} (hnb : nb < r ∧ ∀ g, v.ownBlock = some g → g < r) (hr : w.heap.size = r) (k : Keep (fun _ => False) w X) (ht : r ≤ t) (htx : t < X.heap.size)
    (hp : NetPost nb base most v ps' e0 e1 e2 e3 X W2) : NetPost nb base most v ps' e0 e1 e2 e3 w ((W2.setCell ⟨t, 0, none⟩ a).setCell ⟨t, 1, none⟩ b) := by
  obtain ⟨v', hn, hm, hk⟩ := hp
  have K : Keep (fun i => i = t) W2 ((W2.setCell ⟨t, 0, none⟩ a).setCell ⟨t, 1, none⟩ b) := Keep.two _ _ rfl rfl
  have hsz : w.heap.size ≤ X.heap.size := k.size
  refine ⟨v', hn.keep K (by omega) (fun g hg e => ?_), ?_, ?_⟩
  · subst e
    rcases hm with h | ⟨g', h1, h2⟩
    · have := hnb.2 g (h ▸ hg); omega
    · rw [hg] at h2
      simp at h2
      omega
  · rcases hm with h | ⟨g', h1, h2⟩
    · exact .inl h
    · exact .inr ⟨g', by omega, h2⟩
  · have h1 : Keep (fun i => i = nb ∨ v.ownBlock = some i) w W2 := (k.mono (fun _ h => h.elim)).trans hk
    exact h1.step K (fun i hi => .inr (by omega))
theorem post_keep {nb base : Nat} {most : Int} {v : Value} {ps' : List Pk} {e0 e1 e2 e3 : Int} {w X W2 W3 : World} (k : Keep (fun _ => False) w X) (hp : NetPost nb base most v ps' e0 e1 e2 e3 X W2) (k3 : Keep (fun _ => False) W2 W3) : NetPost nb base most v ps' e0 e1 e2 e3 w W3 := by
  obtain ⟨v', hn, hm, hk⟩ := hp
  refine ⟨v', hn.keep0 k3, ?_, ((k.mono (fun _ h => h.elim)).trans hk).trans (k3.mono (fun _ h => h.elim))⟩
  rcases hm with h | ⟨g', h1, h2⟩
  · exact .inl h
  · exact .inr ⟨g', Nat.le_trans k.size h1, h2⟩
theorem NetPost.heap {nb base r t : Nat} {most : Int} {v : Value} {ps' : List Pk} {e0 e1 e2 e3 : Int} {X W2 : World} {o : Obj} (hp : NetPost nb base most v ps' e0 e1 e2 e3 X W2) (hnb : nb < r ∧ ∀ g, v.ownBlock = some g → g < r) (ht : r ≤ t) (h : X.heap[t]? = some o) : W2.heap[t]? = some o := by
  obtain ⟨v', _, _, hk⟩ := hp
  refine hk.heap h (fun hc => ?_)
  rcases hc with rfl | hc
  · omega
  · have := hnb.2 t hc; omega
set_option maxHeartbeats 1000000 in
theorem take_ok (nb base : Nat) (most : Int) (v : Value) (ps : List Pk) (c0 c1 c2 c3 : Int) (i : Nat) (f : Int) (s : ByteArray) (w : World) (h : NetAt w nb base most v ps c0 c1 c2 c3) (hm : 1 ≤ most) (hi : ps[i]? = some (f, s)) (h64 : ps.length ≤ 64) (hc0 : 0 ≤ c1) (hc1 : c1 ≤ 1000000000) :
    Calls Try.prog 12 #[.pointer (some ⟨nb, 0, none⟩), .int .i64 i] w fun e w' => e = .returned (.tuple #[.agg #[.int .i64 f, .string s], .int .i64 0]) ∧ NetPost nb base most v (ps.eraseIdx i) c0 (c1 + 1) c2 c3 w w' := by
  have hlt : i < ps.length := (List.getElem?_eq_some_iff.1 hi).1
  have HW : Hid (∀ b0 b1 W, Keep (fun _ => False) w W → W.cell? ⟨b0, 0, none⟩ = some (.pointer (some ⟨nb, 0, none⟩)) → W.cell? ⟨b1, 0, none⟩ = some (.int .i64 i) → Calls Try.prog 25 #[.pointer (some ⟨nb, 0, none⟩), .int .i64 i, .func (.func 26) #[] #[.pointer (some ⟨b0, 0, none⟩), .pointer (some ⟨b1, 0, none⟩)]] W fun e w' => e = .returned (.tuple #[.agg #[.int .i64 f, .string s], .int .i64 0]) ∧ NetPost nb base most v (ps.eraseIdx i) c0 (c1 + 1) c2 c3 W w') :=
    fun b0 b1 W k h0 h1 => with26_ok nb base most v ps c0 c1 c2 c3 i f s b0 b1 0 (ps.eraseIdx i) c0 (c1 + 1) c2 c3 W (h.keep0 k) hm hi (fun W' k' => do26 nb base most v ps c0 c1 c2 c3 i f s b0 b1 W' ((h.keep0 k).keep0 k') hlt h64 hc0 hc1 ((k'.rules.1 b0 0 (World.block_lt_of_cell? W _ h0)).trans h0) ((k'.rules.1 b1 0 (World.block_lt_of_cell? W _ h1)).trans h1))
  have HNB : Hid (nb < w.heap.size ∧ ∀ g, v.ownBlock = some g → g < w.heap.size) := ⟨lt_of_block h.block, fun g hg => (h.row.lt g hg).2⟩
  have HH := Lib.hid h
  clear h
  obtain ⟨r, hr⟩ : ∃ r, w.heap.size = r := ⟨_, rfl⟩
  have HR := Lib.hid hr
  clear hi
  obtain ⟨KX, X0, X1, X2, XS⟩ := box3 (A := .cells #[.pointer (some ⟨nb, 0, none⟩)] 23) (B := .cells #[.int .i64 i] 3) (C := .cells #[.int .i64 0, .string ⟨#[]⟩] 34) HR.out
  have KX := Lib.hid KX
  have X0 := Lib.hid X0
  have X1 := Lib.hid X1
  have X2 := Lib.hid X2
  have XS := Lib.hid XS
  go_enter Try.func12, Try.ntmps12
  go_wp2_with fail
  generalize (((w.alloc (.cells #[.pointer (some ⟨nb, 0, none⟩)] 23)).alloc (.cells #[.int .i64 i] 3)).alloc (.cells #[.int .i64 0, .string ⟨#[]⟩] 34)) = X at *
  with_reducible refine (HW.out _ _ _ ?ha ?hb ?hc).mono ?_
  case ha => exact KX.out
  case hb => exact cell_of X0.out 0
  case hc => exact cell_of X1.out 0
  rintro e W2 ⟨rfl, hp⟩
  have HP := Lib.hid hp
  have A2 : Hid (W2.heap[r + 1 + 1]? = some (.cells #[.int .i64 0, .string ⟨#[]⟩] 34 (0, 0))) := hp.heap (r := r) (by rw [← HR.out]; exact HNB.out) (by omega) X2.out
  clear hp
  have D0 : W2.cell? ⟨r + 1 + 1, 0, none⟩ = some (.int .i64 0) := cell_of A2.out 0
  have D1 : W2.cell? ⟨r + 1 + 1, 1, none⟩ = some (.string ⟨#[]⟩) := cell_of A2.out 1
  have D2 : W2.frozen? ⟨r + 1 + 1, 0, none⟩ = false := free_of A2.out 0
  have D3 : W2.frozen? ⟨r + 1 + 1, 1, none⟩ = false := free_of A2.out 1
  go_wp2_with fail
  refine bodyPost_ret (v := .tuple #[.agg #[.int .i64 f, .string s], .int .i64 0]) (by simp [results, Try.results12, go_sem, D0, D1]) rfl ⟨rfl, ?_⟩
  exact post_end (r := r) (by rw [← HR.out]; exact HNB.out) HR.out KX.out (by omega) (by rw [XS.out]; omega) HP.out
set_option maxHeartbeats 1000000 in
theorem drop_ok (nb base : Nat) (most : Int) (v : Value) (ps : List Pk) (c0 c1 c2 c3 : Int) (i : Nat) (f : Int) (s : ByteArray) (w : World) (h : NetAt w nb base most v ps c0 c1 c2 c3) (hm : 1 ≤ most) (hi : ps[i]? = some (f, s)) (h64 : ps.length ≤ 64) (hc0 : 0 ≤ c2) (hc1 : c2 ≤ 1000000000) :
    Calls Try.prog 21 #[.pointer (some ⟨nb, 0, none⟩), .int .i64 i] w fun e w' => e = .returned (.int .i64 0) ∧ NetPost nb base most v (ps.eraseIdx i) c0 c1 (c2 + 1) c3 w w' := by
  have hlt : i < ps.length := (List.getElem?_eq_some_iff.1 hi).1
  have HW : Hid (∀ b0 b1 W, Keep (fun _ => False) w W → W.cell? ⟨b0, 0, none⟩ = some (.pointer (some ⟨nb, 0, none⟩)) → W.cell? ⟨b1, 0, none⟩ = some (.int .i64 i) → Calls Try.prog 25 #[.pointer (some ⟨nb, 0, none⟩), .int .i64 i, .func (.func 37) #[] #[.pointer (some ⟨b0, 0, none⟩), .pointer (some ⟨b1, 0, none⟩)]] W fun e w' => e = .returned (.tuple #[.agg #[.int .i64 f, .string s], .int .i64 0]) ∧ NetPost nb base most v (ps.eraseIdx i) c0 c1 (c2 + 1) c3 W w') :=
    fun b0 b1 W k h0 h1 => with37_ok nb base most v ps c0 c1 c2 c3 i f s b0 b1 0 (ps.eraseIdx i) c0 c1 (c2 + 1) c3 W (h.keep0 k) hm hi (fun W' k' => do37 nb base most v ps c0 c1 c2 c3 i f s b0 b1 W' ((h.keep0 k).keep0 k') hlt h64 hc0 hc1 ((k'.rules.1 b0 0 (World.block_lt_of_cell? W _ h0)).trans h0) ((k'.rules.1 b1 0 (World.block_lt_of_cell? W _ h1)).trans h1))
  have HNB : Hid (nb < w.heap.size ∧ ∀ g, v.ownBlock = some g → g < w.heap.size) := ⟨lt_of_block h.block, fun g hg => (h.row.lt g hg).2⟩
  have HH := Lib.hid h
  clear h
  obtain ⟨r, hr⟩ : ∃ r, w.heap.size = r := ⟨_, rfl⟩
  have HR := Lib.hid hr
  clear hi
  obtain ⟨X, hX⟩ : ∃ X, X = ((w.alloc (.cells #[.pointer (some ⟨nb, 0, none⟩)] 23)).alloc (.cells #[.int .i64 i] 3)) := ⟨_, rfl⟩
  have KX : Hid (Keep (fun _ => False) w X) := by rw [hX]; exact (Keep.alloc _ _ _).allocR _
  have X0 : Hid (X.heap[r]? = some (.cells #[.pointer (some ⟨nb, 0, none⟩)] 23 (0, 0))) := by rw [hX, ← HR.out]; exact (Keep.alloc (fun _ => False) _ _).heap (heap_alloc_new w _) (fun h => h)
  have X1 : Hid (X.heap[r + 1]? = some (.cells #[.int .i64 i] 3 (0, 0))) := by rw [hX, ← HR.out]; exact new_at _ _ _ _ (by simp)
  have HX := Lib.hid hX
  clear hX
  go_enter Try.func21, Try.ntmps21
  go_wp2_with fail
  rw [← HX.out]
  with_reducible refine (HW.out _ _ _ ?ha ?hb ?hc).mono ?_
  case ha => exact KX.out
  case hb => exact cell_of X0.out 0
  case hc => exact cell_of X1.out 0
  rintro e W2 ⟨rfl, hp⟩
  have HP := Lib.hid hp
  clear hp
  go_wp2_with fail
  go_ret
  exact ⟨rfl, post_keep KX.out HP.out (Keep.alloc _ _ _)⟩
set_option maxHeartbeats 1000000 in
theorem twice_ok (nb base : Nat) (most : Int) (v : Value) (ps : List Pk) (c0 c1 c2 c3 : Int) (i : Nat) (f : Int) (s : ByteArray) (w : World) (h : NetAt w nb base most v ps c0 c1 c2 c3) (hm : 1 ≤ most) (hi : ps[i]? = some (f, s)) (hr : (ps.length : Int) < most) (h64 : most ≤ 64) (hbase : base ≤ w.heap.size) (hc0 : 0 ≤ c3) (hc1 : c3 ≤ 1000000000) :
    Calls Try.prog 14 #[.pointer (some ⟨nb, 0, none⟩), .int .i64 i] w fun e w' => e = .returned (.int .i64 0) ∧ NetPost nb base most v (ps ++ [(f, s)]) c0 c1 c2 (c3 + 1) w w' := by
  have HW : Hid (∀ b0 W, Keep (fun _ => False) w W → W.cell? ⟨b0, 0, none⟩ = some (.pointer (some ⟨nb, 0, none⟩)) → Calls Try.prog 25 #[.pointer (some ⟨nb, 0, none⟩), .int .i64 i, .func (.func 28) #[] #[.pointer (some ⟨b0, 0, none⟩)]] W fun e w' => e = .returned (.tuple #[.agg #[.int .i64 f, .string s], .int .i64 0]) ∧ NetPost nb base most v (ps ++ [(f, s)]) c0 c1 c2 (c3 + 1) W w') :=
    fun b0 W k h0 => with28_ok nb base most v ps c0 c1 c2 c3 i f s b0 0 (ps ++ [(f, s)]) c0 c1 c2 (c3 + 1) W (h.keep0 k) hm hi (fun W' k' => do28_ok nb base most v ps c0 c1 c2 c3 f s b0 W' ((h.keep0 k).keep0 k') hr h64 (Nat.le_trans hbase (k.trans k').size) hc0 hc1 ((k'.rules.1 b0 0 (World.block_lt_of_cell? W _ h0)).trans h0))
  have HNB : Hid (nb < w.heap.size ∧ ∀ g, v.ownBlock = some g → g < w.heap.size) := ⟨lt_of_block h.block, fun g hg => (h.row.lt g hg).2⟩
  have HH := Lib.hid h
  clear h
  obtain ⟨r, hr⟩ : ∃ r, w.heap.size = r := ⟨_, rfl⟩
  have HR := Lib.hid hr
  clear hi
  obtain ⟨X, hX⟩ : ∃ X, X = (w.alloc (.cells #[.pointer (some ⟨nb, 0, none⟩)] 23)) := ⟨_, rfl⟩
  have KX : Hid (Keep (fun _ => False) w X) := by rw [hX]; exact Keep.alloc _ _ _
  have X0 : Hid (X.heap[r]? = some (.cells #[.pointer (some ⟨nb, 0, none⟩)] 23 (0, 0))) := by rw [hX, ← HR.out]; exact heap_alloc_new w _
  have HX := Lib.hid hX
  clear hX
  go_enter Try.func14, Try.ntmps14
  go_wp2_with fail
  rw [← HX.out]
  with_reducible refine (HW.out _ _ ?ha ?hb).mono ?_
  case ha => exact KX.out
  case hb => exact cell_of X0.out 0
  rintro e W2 ⟨rfl, hp⟩
  have HP := Lib.hid hp
  clear hp
  go_wp2_with fail
  go_ret
  exact ⟨rfl, post_keep KX.out HP.out (Keep.alloc _ _ _)⟩
set_option maxHeartbeats 1000000 in
theorem twice_full (nb base : Nat) (most : Int) (v : Value) (ps : List Pk) (c0 c1 c2 c3 : Int) (i : Nat) (f : Int) (s : ByteArray) (w : World) (h : NetAt w nb base most v ps c0 c1 c2 c3) (hm : 1 ≤ most) (hi : ps[i]? = some (f, s)) (hr : most ≤ ps.length) (h64 : ps.length ≤ 64) :
    Calls Try.prog 14 #[.pointer (some ⟨nb, 0, none⟩), .int .i64 i] w fun e w' => e = .returned (.int .i64 210) ∧ NetPost nb base most v ps c0 c1 c2 c3 w w' := by
  have HW : Hid (∀ b0 W, Keep (fun _ => False) w W → W.cell? ⟨b0, 0, none⟩ = some (.pointer (some ⟨nb, 0, none⟩)) → Calls Try.prog 25 #[.pointer (some ⟨nb, 0, none⟩), .int .i64 i, .func (.func 28) #[] #[.pointer (some ⟨b0, 0, none⟩)]] W fun e w' => e = .returned (.tuple #[.agg #[.int .i64 f, .string s], .int .i64 210]) ∧ NetPost nb base most v ps c0 c1 c2 c3 W w') :=
    fun b0 W k h0 => with28_ok nb base most v ps c0 c1 c2 c3 i f s b0 210 ps c0 c1 c2 c3 W (h.keep0 k) hm hi (fun W' k' => do28_full nb base most v ps c0 c1 c2 c3 f s b0 W' ((h.keep0 k).keep0 k') hr h64 ((k'.rules.1 b0 0 (World.block_lt_of_cell? W _ h0)).trans h0))
  have HNB : Hid (nb < w.heap.size ∧ ∀ g, v.ownBlock = some g → g < w.heap.size) := ⟨lt_of_block h.block, fun g hg => (h.row.lt g hg).2⟩
  have HH := Lib.hid h
  clear h
  obtain ⟨r, hr⟩ : ∃ r, w.heap.size = r := ⟨_, rfl⟩
  have HR := Lib.hid hr
  clear hi
  obtain ⟨X, hX⟩ : ∃ X, X = (w.alloc (.cells #[.pointer (some ⟨nb, 0, none⟩)] 23)) := ⟨_, rfl⟩
  have KX : Hid (Keep (fun _ => False) w X) := by rw [hX]; exact Keep.alloc _ _ _
  have X0 : Hid (X.heap[r]? = some (.cells #[.pointer (some ⟨nb, 0, none⟩)] 23 (0, 0))) := by rw [hX, ← HR.out]; exact heap_alloc_new w _
  have HX := Lib.hid hX
  clear hX
  go_enter Try.func14, Try.ntmps14
  go_wp2_with fail
  rw [← HX.out]
  with_reducible refine (HW.out _ _ ?ha ?hb).mono ?_
  case ha => exact KX.out
  case hb => exact cell_of X0.out 0
  rintro e W2 ⟨rfl, hp⟩
  have HP := Lib.hid hp
  clear hp
  go_wp2_with fail
  go_ret
  exact ⟨rfl, post_keep KX.out HP.out (Keep.alloc _ _ _)⟩
set_option maxHeartbeats 1000000 in
theorem drop_nobody {a : Option Addr} (i : Int) (w : World) (h : Nobody w (.pointer a)) :
    Calls Try.prog 21 #[.pointer a, .int .i64 i] w fun e w' => e = .returned (.int .i64 1) ∧ Keep (fun _ => False) w w' := by
  have HW : Hid (∀ W fv, Keep (fun _ => False) w W → Calls Try.prog 25 #[.pointer a, .int .i64 i, fv] W fun e w' => e = .returned (.tuple #[.agg #[.int .i64 0, .string ⟨#[]⟩], .int .i64 1]) ∧ Keep (fun _ => False) W w') := fun W _ k => with_nobody i W (h.keep k)
  clear h
  go_enter Try.func21, Try.ntmps21
  go_wp2_with fail
  with_reducible refine (HW.out _ _ ?ha).mono ?_
  case ha => repeat (first | exact Keep.refl _ _ | refine Keep.allocR ?_ _)
  rintro e W2 ⟨rfl, hk⟩
  have K2 : Hid (Keep (fun _ => False) w W2) := Keep.trans (by repeat (first | exact Keep.refl _ _ | refine Keep.allocR ?_ _)) hk
  clear hk
  go_wp2_with fail
  go_ret
  exact ⟨rfl, K2.out.allocR _⟩
set_option maxHeartbeats 1000000 in
theorem drop_bad (nb base : Nat) (most : Int) (v : Value) (ps : List Pk) (c0 c1 c2 c3 : Int) (i : Int) (w : World) (h : NetAt w nb base most v ps c0 c1 c2 c3) (hm : 1 ≤ most) (hi : i < 0 ∨ (ps.length : Int) ≤ i) (h64 : ps.length ≤ 64) :
    Calls Try.prog 21 #[.pointer (some ⟨nb, 0, none⟩), .int .i64 i] w fun e w' => e = .returned (.int .i64 211) ∧ Keep (fun _ => False) w w' := by
  have HW : Hid (∀ W fv, Keep (fun _ => False) w W → Calls Try.prog 25 #[.pointer (some ⟨nb, 0, none⟩), .int .i64 i, fv] W fun e w' => e = .returned (.tuple #[.agg #[.int .i64 0, .string ⟨#[]⟩], .int .i64 211]) ∧ Keep (fun _ => False) W w') := fun W _ k => with_bad nb base most v ps c0 c1 c2 c3 i W (h.keep0 k) hm hi h64
  clear h
  go_enter Try.func21, Try.ntmps21
  go_wp2_with fail
  with_reducible refine (HW.out _ _ ?ha).mono ?_
  case ha => repeat (first | exact Keep.refl _ _ | refine Keep.allocR ?_ _)
  rintro e W2 ⟨rfl, hk⟩
  have K2 : Hid (Keep (fun _ => False) w W2) := Keep.trans (by repeat (first | exact Keep.refl _ _ | refine Keep.allocR ?_ _)) hk
  clear hk
  go_wp2_with fail
  go_ret
  exact ⟨rfl, K2.out.allocR _⟩
set_option maxHeartbeats 1000000 in
theorem twice_nobody {a : Option Addr} (i : Int) (w : World) (h : Nobody w (.pointer a)) :
    Calls Try.prog 14 #[.pointer a, .int .i64 i] w fun e w' => e = .returned (.int .i64 1) ∧ Keep (fun _ => False) w w' := by
  have HW : Hid (∀ W fv, Keep (fun _ => False) w W → Calls Try.prog 25 #[.pointer a, .int .i64 i, fv] W fun e w' => e = .returned (.tuple #[.agg #[.int .i64 0, .string ⟨#[]⟩], .int .i64 1]) ∧ Keep (fun _ => False) W w') := fun W _ k => with_nobody i W (h.keep k)
  clear h
  go_enter Try.func14, Try.ntmps14
  go_wp2_with fail
  with_reducible refine (HW.out _ _ ?ha).mono ?_
  case ha => repeat (first | exact Keep.refl _ _ | refine Keep.allocR ?_ _)
  rintro e W2 ⟨rfl, hk⟩
  have K2 : Hid (Keep (fun _ => False) w W2) := Keep.trans (by repeat (first | exact Keep.refl _ _ | refine Keep.allocR ?_ _)) hk
  clear hk
  go_wp2_with fail
  go_ret
  exact ⟨rfl, K2.out.allocR _⟩
set_option maxHeartbeats 1000000 in
theorem twice_bad (nb base : Nat) (most : Int) (v : Value) (ps : List Pk) (c0 c1 c2 c3 : Int) (i : Int) (w : World) (h : NetAt w nb base most v ps c0 c1 c2 c3) (hm : 1 ≤ most) (hi : i < 0 ∨ (ps.length : Int) ≤ i) (h64 : ps.length ≤ 64) :
    Calls Try.prog 14 #[.pointer (some ⟨nb, 0, none⟩), .int .i64 i] w fun e w' => e = .returned (.int .i64 211) ∧ Keep (fun _ => False) w w' := by
  have HW : Hid (∀ W fv, Keep (fun _ => False) w W → Calls Try.prog 25 #[.pointer (some ⟨nb, 0, none⟩), .int .i64 i, fv] W fun e w' => e = .returned (.tuple #[.agg #[.int .i64 0, .string ⟨#[]⟩], .int .i64 211]) ∧ Keep (fun _ => False) W w') := fun W _ k => with_bad nb base most v ps c0 c1 c2 c3 i W (h.keep0 k) hm hi h64
  clear h
  go_enter Try.func14, Try.ntmps14
  go_wp2_with fail
  with_reducible refine (HW.out _ _ ?ha).mono ?_
  case ha => repeat (first | exact Keep.refl _ _ | refine Keep.allocR ?_ _)
  rintro e W2 ⟨rfl, hk⟩
  have K2 : Hid (Keep (fun _ => False) w W2) := Keep.trans (by repeat (first | exact Keep.refl _ _ | refine Keep.allocR ?_ _)) hk
  clear hk
  go_wp2_with fail
  go_ret
  exact ⟨rfl, K2.out.allocR _⟩
set_option maxHeartbeats 1000000 in
theorem turn_nobody {a : Option Addr} (i k b : Int) (w : World) (h : Nobody w (.pointer a)) :
    Calls Try.prog 15 #[.pointer a, .int .i64 i, .int .i64 k, .int .u8 b] w fun e w' => e = .returned (.int .i64 1) ∧ Keep (fun _ => False) w w' := by
  have HW : Hid (∀ W fv, Keep (fun _ => False) w W → Calls Try.prog 25 #[.pointer a, .int .i64 i, fv] W fun e w' => e = .returned (.tuple #[.agg #[.int .i64 0, .string ⟨#[]⟩], .int .i64 1]) ∧ Keep (fun _ => False) W w') := fun W _ kk => with_nobody i W (h.keep kk)
  clear h
  go_enter Try.func15, Try.ntmps15
  go_wp2_with fail
  with_reducible refine (HW.out _ _ ?ha).mono ?_
  case ha => repeat (first | exact Keep.refl _ _ | refine Keep.allocR ?_ _)
  rintro e W2 ⟨rfl, hk⟩
  have K2 : Hid (Keep (fun _ => False) w W2) := Keep.trans (by repeat (first | exact Keep.refl _ _ | refine Keep.allocR ?_ _)) hk
  clear hk
  go_wp2_with fail
  go_ret
  exact ⟨rfl, K2.out.allocR _⟩
set_option maxHeartbeats 1000000 in
theorem turn_bad (nb base : Nat) (most : Int) (v : Value) (ps : List Pk) (c0 c1 c2 c3 : Int) (i k b : Int) (w : World) (h : NetAt w nb base most v ps c0 c1 c2 c3) (hm : 1 ≤ most) (hi : i < 0 ∨ (ps.length : Int) ≤ i) (h64 : ps.length ≤ 64) :
    Calls Try.prog 15 #[.pointer (some ⟨nb, 0, none⟩), .int .i64 i, .int .i64 k, .int .u8 b] w fun e w' => e = .returned (.int .i64 211) ∧ Keep (fun _ => False) w w' := by
  have HW : Hid (∀ W fv, Keep (fun _ => False) w W → Calls Try.prog 25 #[.pointer (some ⟨nb, 0, none⟩), .int .i64 i, fv] W fun e w' => e = .returned (.tuple #[.agg #[.int .i64 0, .string ⟨#[]⟩], .int .i64 211]) ∧ Keep (fun _ => False) W w') := fun W _ kk => with_bad nb base most v ps c0 c1 c2 c3 i W (h.keep0 kk) hm hi h64
  clear h
  go_enter Try.func15, Try.ntmps15
  go_wp2_with fail
  with_reducible refine (HW.out _ _ ?ha).mono ?_
  case ha => repeat (first | exact Keep.refl _ _ | refine Keep.allocR ?_ _)
  rintro e W2 ⟨rfl, hk⟩
  have K2 : Hid (Keep (fun _ => False) w W2) := Keep.trans (by repeat (first | exact Keep.refl _ _ | refine Keep.allocR ?_ _)) hk
  clear hk
  go_wp2_with fail
  go_ret
  exact ⟨rfl, K2.out.allocR _⟩
set_option maxHeartbeats 1000000 in
theorem take_nobody {a : Option Addr} (i : Int) (w : World) (h : Nobody w (.pointer a)) :
    Calls Try.prog 12 #[.pointer a, .int .i64 i] w fun e w' => e = .returned (.tuple #[.agg #[.int .i64 0, .string ⟨#[]⟩], .int .i64 1]) ∧ Keep (fun _ => False) w w' := by
  have HW : Hid (∀ W fv, Keep (fun _ => False) w W → Calls Try.prog 25 #[.pointer a, .int .i64 i, fv] W fun e w' => e = .returned (.tuple #[.agg #[.int .i64 0, .string ⟨#[]⟩], .int .i64 1]) ∧ Keep (fun _ => False) W w') := fun W _ k => with_nobody i W (h.keep k)
  clear h
  obtain ⟨r, hr⟩ : ∃ r, w.heap.size = r := ⟨_, rfl⟩
  have HR := Lib.hid hr
  obtain ⟨KX, X0, X1, X2, XS⟩ := box3 (A := .cells #[.pointer a] 23) (B := .cells #[.int .i64 i] 3) (C := .cells #[.int .i64 0, .string ⟨#[]⟩] 34) HR.out
  have KX := Lib.hid KX
  have X2 := Lib.hid X2
  clear X0 X1 XS
  go_enter Try.func12, Try.ntmps12
  go_wp2_with fail
  generalize (((w.alloc (.cells #[.pointer a] 23)).alloc (.cells #[.int .i64 i] 3)).alloc (.cells #[.int .i64 0, .string ⟨#[]⟩] 34)) = X at *
  with_reducible refine (HW.out _ _ ?ha).mono ?_
  case ha => exact KX.out
  rintro e W2 ⟨rfl, hk⟩
  have K2 : Hid (Keep (fun _ => False) w W2) := KX.out.trans hk
  have A2 : Hid (W2.heap[r + 1 + 1]? = some (.cells #[.int .i64 0, .string ⟨#[]⟩] 34 (0, 0))) := hk.heap X2.out (fun h => h)
  clear hk
  have D0 : W2.cell? ⟨r + 1 + 1, 0, none⟩ = some (.int .i64 0) := cell_of A2.out 0
  have D1 : W2.cell? ⟨r + 1 + 1, 1, none⟩ = some (.string ⟨#[]⟩) := cell_of A2.out 1
  have D2 : W2.frozen? ⟨r + 1 + 1, 0, none⟩ = false := free_of A2.out 0
  have D3 : W2.frozen? ⟨r + 1 + 1, 1, none⟩ = false := free_of A2.out 1
  go_wp2_with fail
  refine bodyPost_ret (v := .tuple #[.agg #[.int .i64 0, .string ⟨#[]⟩], .int .i64 1]) (by simp [results, Try.results12, go_sem, D0, D1]) rfl ⟨rfl, ?_⟩
  exact (K2.out.setNew (p := ⟨r + 1 + 1, 0, none⟩) (by rw [HR.out]; dsimp only; omega) _).setNew (p := ⟨r + 1 + 1, 1, none⟩) (by rw [HR.out]; dsimp only; omega) _
set_option maxHeartbeats 1000000 in
theorem take_bad (nb base : Nat) (most : Int) (v : Value) (ps : List Pk) (c0 c1 c2 c3 : Int) (i : Int) (w : World) (h : NetAt w nb base most v ps c0 c1 c2 c3) (hm : 1 ≤ most) (hi : i < 0 ∨ (ps.length : Int) ≤ i) (h64 : ps.length ≤ 64) :
    Calls Try.prog 12 #[.pointer (some ⟨nb, 0, none⟩), .int .i64 i] w fun e w' => e = .returned (.tuple #[.agg #[.int .i64 0, .string ⟨#[]⟩], .int .i64 211]) ∧ Keep (fun _ => False) w w' := by
  have HW : Hid (∀ W fv, Keep (fun _ => False) w W → Calls Try.prog 25 #[.pointer (some ⟨nb, 0, none⟩), .int .i64 i, fv] W fun e w' => e = .returned (.tuple #[.agg #[.int .i64 0, .string ⟨#[]⟩], .int .i64 211]) ∧ Keep (fun _ => False) W w') := fun W _ k => with_bad nb base most v ps c0 c1 c2 c3 i W (h.keep0 k) hm hi h64
  clear h
  obtain ⟨r, hr⟩ : ∃ r, w.heap.size = r := ⟨_, rfl⟩
  have HR := Lib.hid hr
  obtain ⟨KX, X0, X1, X2, XS⟩ := box3 (A := .cells #[.pointer (some ⟨nb, 0, none⟩)] 23) (B := .cells #[.int .i64 i] 3) (C := .cells #[.int .i64 0, .string ⟨#[]⟩] 34) HR.out
  have KX := Lib.hid KX
  have X2 := Lib.hid X2
  clear X0 X1 XS
  go_enter Try.func12, Try.ntmps12
  go_wp2_with fail
  generalize (((w.alloc (.cells #[.pointer (some ⟨nb, 0, none⟩)] 23)).alloc (.cells #[.int .i64 i] 3)).alloc (.cells #[.int .i64 0, .string ⟨#[]⟩] 34)) = X at *
  with_reducible refine (HW.out _ _ ?ha).mono ?_
  case ha => exact KX.out
  rintro e W2 ⟨rfl, hk⟩
  have K2 : Hid (Keep (fun _ => False) w W2) := KX.out.trans hk
  have A2 : Hid (W2.heap[r + 1 + 1]? = some (.cells #[.int .i64 0, .string ⟨#[]⟩] 34 (0, 0))) := hk.heap X2.out (fun h => h)
  clear hk
  have D0 : W2.cell? ⟨r + 1 + 1, 0, none⟩ = some (.int .i64 0) := cell_of A2.out 0
  have D1 : W2.cell? ⟨r + 1 + 1, 1, none⟩ = some (.string ⟨#[]⟩) := cell_of A2.out 1
  have D2 : W2.frozen? ⟨r + 1 + 1, 0, none⟩ = false := free_of A2.out 0
  have D3 : W2.frozen? ⟨r + 1 + 1, 1, none⟩ = false := free_of A2.out 1
  go_wp2_with fail
  refine bodyPost_ret (v := .tuple #[.agg #[.int .i64 0, .string ⟨#[]⟩], .int .i64 211]) (by simp [results, Try.results12, go_sem, D0, D1]) rfl ⟨rfl, ?_⟩
  exact (K2.out.setNew (p := ⟨r + 1 + 1, 0, none⟩) (by rw [HR.out]; dsimp only; omega) _).setNew (p := ⟨r + 1 + 1, 1, none⟩) (by rw [HR.out]; dsimp only; omega) _
end Go.Proofs.Ythcagpgdekhaeaa
