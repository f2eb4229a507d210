/- Bits of a packet are turned, walked. -/
import Derived.Test.YthcagpgdekhaeaaN10
import Derived.Laws.IdiomStrings
import Derived.Laws.BitsAll
namespace Go.Proofs.Ythcagpgdekhaeaa
open Go.RowKit
def turned (s : ByteArray) (k : Nat) (b : UInt8) : ByteArray := ⟨s.data.setIfInBounds k (s.data.getD k 0 ^^^ b)⟩
theorem turned_size (s : ByteArray) (k : Nat) (b : UInt8) : (turned s k b).size = s.size := by
  show (s.data.setIfInBounds k _).size = s.data.size
  exact Array.size_setIfInBounds
theorem heap_setCell_fr {w : World} {b i : Nat} {v : Value} {cs : Array Value} {t : TypeId} {fr : Nat × Nat} (h : w.heap[b]? = some (.cells cs t fr)) : (w.setCell ⟨b, i, none⟩ v).heap[b]? = some (.cells (cs.setIfInBounds i v) t fr) := by
  rw [setCell_eq_setRow w b i cs t fr v h]
  exact setRow_heap w b cs _ t fr h
theorem bs_turned {Z : World} {t cp k : Nat} {s : ByteArray} {b : UInt8} {fr : Nat × Nat} (hk : k < s.size) (h : Z.heap[t]? = some (.cells ((bytesRow s cp).setIfInBounds k (.int .u8 ((s.data[k] ^^^ b).toNat : Int))) 5 fr)) : Bs Z (some ⟨t, 0, none⟩) (turned s k b) := by
  intro i hi
  have hi' : i < s.data.size := by rw [turned_size] at hi; exact hi
  have hk' : k < s.data.size := hk
  refine ⟨t, 0, rfl, ?_⟩
  rw [Nat.zero_add, cell_of h, ByteArray.getElem_eq_getElem_data]
  show _ = some (Value.int .u8 (((s.data.setIfInBounds k (s.data.getD k 0 ^^^ b))[i]'(by simpa using hi')).toNat : Int))
  have hg : s.data.getD k 0 = s.data[k] := by simp [Array.getD, hk]
  by_cases hik : k = i
  · subst hik
    have hsz : k < (bytesRow s cp).size := by
      have := (Array.getElem?_eq_some_iff.1 (bytesRow_at s cp k hk')).1
      exact this
    rw [Array.getElem?_setIfInBounds_self_of_lt hsz, Array.getElem_setIfInBounds_self, hg]
  · rw [Array.getElem?_setIfInBounds_ne hik, bytesRow_at s cp i hi', Array.getElem_setIfInBounds_ne _ hik]
theorem flat_set (ps : List Pk) (i : Nat) (f : Int) (s s' : ByteArray) (h : ps[i]? = some (f, s)) : flat (ps.set i (f, s')) = (flat ps).set (i * 2 + 1) (.string s') := by
  induction ps generalizing i with
  | nil => simp at h
  | cons p ps ih =>
    cases i with
    | zero => simp at h; subst h; simp [flat_cons]
    | succ i =>
      rw [List.set_cons_succ, flat_cons, flat_cons, ih i (by simpa using h)]
      rw [show (i + 1) * 2 + 1 = i * 2 + 1 + 1 + 1 by omega]
      simp
theorem turned_at (s : ByteArray) (k : Nat) (b : UInt8) (j : Nat) (hj : j < s.size) : (turned s k b)[j]'(by rw [turned_size]; exact hj) = if k = j then s[j] ^^^ b else s[j] := by
  have hj' : j < s.data.size := hj
  show (s.data.setIfInBounds k (s.data.getD k 0 ^^^ b))[j]'(by simpa using hj') = if k = j then s.data[j] ^^^ b else s.data[j]
  by_cases hk : k = j
  · subst hk
    rw [if_pos rfl, Array.getElem_setIfInBounds_self]
    have hg : s.data.getD k 0 = s.data[k] := by simp [Array.getD, hj]
    rw [hg]
  · rw [if_neg hk, Array.getElem_setIfInBounds_ne _ hk]
theorem turned_back (s : ByteArray) (k : Nat) (b : UInt8) (hk : k < s.size) : turned (turned s k b) k b = s := by
  have hk' : k < s.data.size := hk
  have h1 : s.data.getD k 0 = s.data[k] := by simp [Array.getD, hk]
  unfold turned
  congr 1
  have hg : (s.data.setIfInBounds k (s.data[k] ^^^ b)).getD k 0 = s.data[k] ^^^ b := by
    rw [Array.getD_eq_getD_getElem?, Array.getElem?_setIfInBounds_self_of_lt hk']
    rfl
  simp only [h1, hg]
  apply Array.ext
  · simp
  · intro i h2 h3
    by_cases hik : k = i
    · subst hik
      rw [Array.getElem_setIfInBounds_self]
      rw [UInt8.xor_assoc, UInt8.xor_self, UInt8.xor_zero]
    · rw [Array.getElem_setIfInBounds_ne (by simpa using h3) hik, Array.getElem_setIfInBounds_ne h3 hik]
set_option maxHeartbeats 400000 in
theorem do29_arg (nb base : Nat) (most : Int) (v : Value) (ps : List Pk) (c0 c1 c2 c3 : Int) (f k : Int) (s : ByteArray) (b0 b1 b2 b3 : Nat) (w : World) (h : NetAt w nb base most v ps c0 c1 c2 c3) (hk : k < 0 ∨ (s.size : Int) ≤ k)
    (hb0 : w.cell? ⟨b0, 0, none⟩ = some (.int .i64 k)) :
    Calls Try.prog 29 #[.agg #[.int .i64 f, .string s], .pointer (some ⟨b0, 0, none⟩), .pointer (some ⟨b1, 0, none⟩), .pointer (some ⟨b2, 0, none⟩), .pointer (some ⟨b3, 0, none⟩)] w (DoPost nb base most v ps c0 c1 c2 c3 2 w) := by
  have l0 : b0 < w.heap.size := World.block_lt_of_cell? w _ hb0
  have HH := Lib.hid h
  clear h
  rcases hk with hk | hk
  · go_enter Try.func29, Try.ntmps29
    go_wp2_with fail
    go_ret
    show _ ∧ _
    exact ⟨rfl, v, HH.out.keep0 (Keep.alloc _ _ _), .inl rfl, (Keep.alloc _ _ _)⟩
  · by_cases h0 : k < 0
    · go_enter Try.func29, Try.ntmps29
      go_wp2_with fail
      go_ret
      show _ ∧ _
      exact ⟨rfl, v, HH.out.keep0 (Keep.alloc _ _ _), .inl rfl, (Keep.alloc _ _ _)⟩
    · go_enter Try.func29, Try.ntmps29
      go_wp2_with fail
      go_ret
      show _ ∧ _
      exact ⟨rfl, v, HH.out.keep0 (Keep.alloc _ _ _), .inl rfl, (Keep.alloc _ _ _)⟩
set_option maxHeartbeats 1000000 in
theorem do29_ok (nb base : Nat) (most : Int) (v : Value) (ps : List Pk) (c0 c1 c2 c3 : Int) (i k : Nat) (f : Int) (s : ByteArray) (b : UInt8) (b0 b1 b2 b3 : Nat) (w : World) (h : NetAt w nb base most v ps c0 c1 c2 c3) (hi : ps[i]? = some (f, s)) (hk : k < s.size)
    (hb0 : w.cell? ⟨b0, 0, none⟩ = some (.int .i64 k)) (hb1 : w.cell? ⟨b1, 0, none⟩ = some (.int .u8 (b.toNat : Int))) (hb2 : w.cell? ⟨b2, 0, none⟩ = some (.pointer (some ⟨nb, 0, none⟩))) (hb3 : w.cell? ⟨b3, 0, none⟩ = some (.int .i64 i)) :
    Calls Try.prog 29 #[.agg #[.int .i64 f, .string s], .pointer (some ⟨b0, 0, none⟩), .pointer (some ⟨b1, 0, none⟩), .pointer (some ⟨b2, 0, none⟩), .pointer (some ⟨b3, 0, none⟩)] w (DoPost nb base most v (ps.set i (f, turned s k b)) c0 c1 c2 c3 0 w) := by
  have l0 : b0 < w.heap.size := World.block_lt_of_cell? w _ hb0
  have l1 : b1 < w.heap.size := World.block_lt_of_cell? w _ hb1
  have l2 : b2 < w.heap.size := World.block_lt_of_cell? w _ hb2
  have l3 : b3 < w.heap.size := World.block_lt_of_cell? w _ hb3
  have g0 : ¬ (k : Int) < 0 := by omega
  have g1 : ¬ (s.size : Int) ≤ (k : Int) := by omega
  have HH := Lib.hid h
  clear h
  have hcv := fun W => run_bytes_of_string (P := Try.prog) W 9 28 5 s Try.underlying9 Try.underlying28 Try.underlying5
  obtain ⟨r, hr⟩ : ∃ r, w.heap.size = r := ⟨_, rfl⟩
  have HR := Lib.hid hr
  rw [hr] at l0 l1 l2 l3
  obtain ⟨cp, hcp⟩ : ∃ cp, grownCap (w.alloc (.cells #[.int .i64 f, .string s] 34)) s.size 0 5 = cp := ⟨_, rfl⟩
  have hcs : s.size ≤ cp := by rw [← hcp]; exact grownCap_ge _ _ _ _
  have HX : Hid (∀ X, X = ((w.alloc (.cells #[.int .i64 f, .string s] 34)).alloc (.cells (bytesRow s cp) 5 ((bytesRow s cp).size, (bytesRow s cp).size + 1))).drew → Keep (fun _ => False) w X ∧ X.heap[r + 1]? = some (.cells (bytesRow s cp) 5 ((bytesRow s cp).size, (bytesRow s cp).size + 1))) := by
    intro X hX
    subst hX
    refine ⟨((Keep.alloc _ _ _).allocR _).drewR, ?_⟩
    show (((w.alloc _).alloc _).heap[r + 1]?) = _
    have := heap_alloc_new (w.alloc (.cells #[.int .i64 f, .string s] 34)) (.cells (bytesRow s cp) 5 ((bytesRow s cp).size, (bytesRow s cp).size + 1))
    rw [← hr]
    simpa using this
  have hsz : (bytesRow s cp).size = cp := by
    have : s.data.size = s.size := rfl
    simp [bytesRow]; omega
  have HSZ := Lib.hid hsz
  have hbk := bytesRow_at s cp k hk
  have HBK := Lib.hid hbk
  clear hsz hbk
  go_enter Try.func29, Try.ntmps29
  go_wp2_with fail
  obtain ⟨KX, X1⟩ := HX.out _ rfl
  generalize hX : (((w.alloc (.cells #[.int .i64 f, .string s] 34)).alloc (.cells (bytesRow s cp) 5 ((bytesRow s cp).size, (bytesRow s cp).size + 1))).drew) = X at *
  clear hX HX hcv hcp
  have KXh := Lib.hid KX
  have X1h := Lib.hid X1
  have d0 : X.cell? ⟨b0, 0, none⟩ = some (.int .i64 k) := (KX.rules.1 b0 0 (by rw [HR.out]; exact l0)).trans hb0
  have d1 : X.cell? ⟨b1, 0, none⟩ = some (.int .u8 (b.toNat : Int)) := (KX.rules.1 b1 0 (by rw [HR.out]; exact l1)).trans hb1
  have d2 : X.cell? ⟨b2, 0, none⟩ = some (.pointer (some ⟨nb, 0, none⟩)) := (KX.rules.1 b2 0 (by rw [HR.out]; exact l2)).trans hb2
  have d3 : X.cell? ⟨b3, 0, none⟩ = some (.int .i64 i) := (KX.rules.1 b3 0 (by rw [HR.out]; exact l3)).trans hb3
  have d4 : X.cell? ⟨r + 1, k, none⟩ = some (.int .u8 (s.data[k].toNat : Int)) := (cell_of X1 k).trans HBK.out
  have d5 : X.frozen? ⟨r + 1, k, none⟩ = false := by
    simp only [World.frozen?, X1]
    rw [HSZ.out]
    simp; omega
  have H0 := Lib.hid hb0
  have H1 := Lib.hid hb1
  have H2 := Lib.hid hb2
  have H3 := Lib.hid hb3
  clear KX X1 hb0 hb1 hb2 hb3
  have u0 : 0 ≤ ((s.data[k].toNat : Nat) : Int) := by omega
  have u1 : ((s.data[k].toNat : Nat) : Int) < 256 := by have := UInt8.toNat_lt s.data[k]; omega
  have u2 : 0 ≤ ((b.toNat : Nat) : Int) := by omega
  have u3 : ((b.toNat : Nat) : Int) < 256 := by have := UInt8.toNat_lt b; omega
  have hx := u8_xor (s.data[k].toNat : Int) (b.toNat : Int) u0 u1 u2 u3
  go_still_tail 7, (by kernel_rfl)
  go_wp2_with fail
  have hxn : ((s.data[k].toNat ^^^ b.toNat : Nat) : Int) = ((s.data[k] ^^^ b).toNat : Int) := by rw [UInt8.toNat_xor]
  rw [hxn]
  clear hx hxn u0 u1 u2 u3
  generalize hZ : World.drew _ = Z
  have KZ : Hid (Keep (fun _ => False) w Z) := by rw [← hZ]; exact (KXh.out.setNew (p := ⟨r + 1, k, none⟩) (by rw [HR.out]; dsimp only; omega) _).drewR
  have e0 : Z.cell? ⟨b0, 0, none⟩ = some (.int .i64 k) := (KZ.out.rules.1 b0 0 (by rw [HR.out]; exact l0)).trans H0.out
  have e1 : Z.cell? ⟨b1, 0, none⟩ = some (.int .u8 (b.toNat : Int)) := (KZ.out.rules.1 b1 0 (by rw [HR.out]; exact l1)).trans H1.out
  have e2 : Z.cell? ⟨b2, 0, none⟩ = some (.pointer (some ⟨nb, 0, none⟩)) := (KZ.out.rules.1 b2 0 (by rw [HR.out]; exact l2)).trans H2.out
  have e3 : Z.cell? ⟨b3, 0, none⟩ = some (.int .i64 i) := (KZ.out.rules.1 b3 0 (by rw [HR.out]; exact l3)).trans H3.out
  have Z1 : Hid (Z.heap[r + 1]? = some (.cells ((bytesRow s cp).setIfInBounds k (.int .u8 ((s.data[k] ^^^ b).toNat : Int))) 5 ((bytesRow s cp).size, (bytesRow s cp).size + 1))) := by
    rw [← hZ]
    exact heap_setCell_fr X1h.out
  have HB : Hid (Bs Z (some ⟨r + 1, 0, none⟩) (turned s k b)) := bs_turned hk Z1.out
  have HNZ : Hid (NetAt Z nb base most v ps c0 c1 c2 c3) := HH.out.keep0 KZ.out
  clear hZ d0 d1 d2 d3 d4 d5
  obtain ⟨a, cap, hv, q1, q2⟩ := HNZ.out.slice
  subst hv
  obtain ⟨g, rfl, hgb, hgn, p0, p1, p2, p3⟩ := HNZ.out.packet i (f, s) hi
  dsimp only at p1
  have n1 := HNZ.out.cells.2.1
  have hil : i < ps.length := (List.getElem?_eq_some_iff.1 hi).1
  have HGN := Lib.hid hgn
  unfold maxLen at q2
  have cv : ∀ d, (convert 28 9 (.slice (some ⟨r + 1, 0, none⟩) s.size cp)).run Try.prog { Z with drawn := d } = .ok (.string (turned s k b)) { Z with drawn := d } := by
    intro d
    have hB : Bs { Z with drawn := d } (some ⟨r + 1, 0, none⟩) (turned s k b) := HB.out
    have := hB.conv cp
    rwa [turned_size] at this
  have cvd : (convert 28 9 (.slice (some ⟨r + 1, 0, none⟩) s.size cp)).run Try.prog Z.drew = .ok (.string (turned s k b)) Z.drew := cv (Z.drawn + 1)
  have HI := Lib.hid hi
  have HF := Lib.hid (flat_set ps i f s (turned s k b) hi)
  clear hi hgn p0 p2
  obtain ⟨m, hm⟩ : ∃ m, ps.length = m := ⟨_, rfl⟩
  have HM := Lib.hid hm
  rw [hm] at n1 hil q1
  clear hm
  have qa : (0 : Int) ≤ (i : Int) := by omega
  have qb : (i : Int) < (m : Int) := by omega
  go_still_tail 9, (by kernel_rfl)
  go_wp2_with fail
  go_ret
  show _ ∧ _
  have K2 : Keep (fun j => j = g) Z (Z.setCell ⟨g, i * 2 + 1, none⟩ (.string (turned s k b))) := Keep.setCell _ _ rfl
  refine ⟨rfl, .slice (some ⟨g, 0, none⟩) ps.length cap, ⟨?_, ?_⟩, .inl rfl, ?_⟩
  · exact K2.heap HNZ.out.block (fun e => HGN.out e.symm)
  · rw [List.length_set, HF.out]
    exact (HNZ.out.row.stored _ _).1
  · have k1 : Keep (fun j => j = nb ∨ (Value.slice (some ⟨g, 0, none⟩) ps.length cap).ownBlock = some j) w Z := KZ.out.mono (fun _ h => h.elim)
    exact (k1.trans (K2.mono (fun j hj => .inr (by simp [Value.ownBlock, hj])))).drewR
set_option maxHeartbeats 1000000 in
theorem turn_ok (nb base : Nat) (most : Int) (v : Value) (ps : List Pk) (c0 c1 c2 c3 : Int) (i : Nat) (k : Nat) (f : Int) (s : ByteArray) (b : UInt8) (w : World) (h : NetAt w nb base most v ps c0 c1 c2 c3) (hm : 1 ≤ most) (hi : ps[i]? = some (f, s)) (hk : k < s.size) :
    Calls Try.prog 15 #[.pointer (some ⟨nb, 0, none⟩), .int .i64 i, .int .i64 k, .int .u8 (b.toNat : Int)] w fun e w' => e = .returned (.int .i64 0) ∧ NetPost nb base most v (ps.set i (f, turned s k b)) c0 c1 c2 c3 w w' := by
  have HW : Hid (∀ b0 b1 b2 b3 W, Keep (fun _ => False) w W → W.cell? ⟨b0, 0, none⟩ = some (.int .i64 k) → W.cell? ⟨b1, 0, none⟩ = some (.int .u8 (b.toNat : Int)) → W.cell? ⟨b2, 0, none⟩ = some (.pointer (some ⟨nb, 0, none⟩)) → W.cell? ⟨b3, 0, none⟩ = some (.int .i64 i) →
      Calls Try.prog 25 #[.pointer (some ⟨nb, 0, none⟩), .int .i64 i, .func (.func 29) #[] #[.pointer (some ⟨b0, 0, none⟩), .pointer (some ⟨b1, 0, none⟩), .pointer (some ⟨b2, 0, none⟩), .pointer (some ⟨b3, 0, none⟩)]] W fun e w' => e = .returned (.tuple #[.agg #[.int .i64 f, .string s], .int .i64 0]) ∧ NetPost nb base most v (ps.set i (f, turned s k b)) c0 c1 c2 c3 W w') :=
    fun b0 b1 b2 b3 W k0 h0 h1 h2 h3 => with29_ok nb base most v ps c0 c1 c2 c3 i f s b0 b1 b2 b3 0 (ps.set i (f, turned s k b)) c0 c1 c2 c3 W (h.keep0 k0) hm hi (fun W' k' =>
      have old : ∀ {q : Nat} {u : Value}, W.cell? ⟨q, 0, none⟩ = some u → W'.cell? ⟨q, 0, none⟩ = some u := fun hq => (k'.rules.1 _ 0 (World.block_lt_of_cell? W _ hq)).trans hq
      do29_ok nb base most v ps c0 c1 c2 c3 i k f s b b0 b1 b2 b3 W' ((h.keep0 k0).keep0 k') hi hk (old h0) (old h1) (old h2) (old h3))
  clear h hi
  obtain ⟨r, hr⟩ : ∃ r, w.heap.size = r := ⟨_, rfl⟩
  have HR := Lib.hid hr
  obtain ⟨X, hX⟩ : ∃ X, X = ((((w.alloc (.cells #[.pointer (some ⟨nb, 0, none⟩)] 23)).alloc (.cells #[.int .i64 i] 3)).alloc (.cells #[.int .i64 k] 3)).alloc (.cells #[.int .u8 (b.toNat : Int)] 5)) := ⟨_, rfl⟩
  have KX : Hid (Keep (fun _ => False) w X) := by rw [hX]; exact (((Keep.alloc _ _ _).allocR _).allocR _).allocR _
  have X0 : Hid (X.heap[r]? = some (.cells #[.pointer (some ⟨nb, 0, none⟩)] 23 (0, 0))) := by
    rw [hX]
    refine (Keep.alloc (fun _ => False) _ _).heap ((Keep.alloc (fun _ => False) _ _).heap ((Keep.alloc (fun _ => False) _ _).heap (new_at _ _ _ _ ?_) (fun h => h)) (fun h => h)) (fun h => h)
    exact hr.symm
  have X1 : Hid (X.heap[r + 1]? = some (.cells #[.int .i64 i] 3 (0, 0))) := by
    rw [hX]
    refine (Keep.alloc (fun _ => False) _ _).heap ((Keep.alloc (fun _ => False) _ _).heap (new_at _ _ _ _ ?_) (fun h => h)) (fun h => h)
    simp [hr]
  have X2 : Hid (X.heap[r + 1 + 1]? = some (.cells #[.int .i64 k] 3 (0, 0))) := by
    rw [hX]
    refine (Keep.alloc (fun _ => False) _ _).heap (new_at _ _ _ _ ?_) (fun h => h)
    simp [hr]
  have X3 : Hid (X.heap[r + 1 + 1 + 1]? = some (.cells #[.int .u8 (b.toNat : Int)] 5 (0, 0))) := by
    rw [hX]
    refine new_at _ _ _ _ ?_
    simp [hr]
  have HX := Lib.hid hX
  clear hX
  go_enter Try.func15, Try.ntmps15
  go_wp2_with fail
  rw [← HX.out]
  with_reducible refine (HW.out _ _ _ _ _ ?ha ?hb ?hc ?hd ?he).mono ?_
  case ha => exact KX.out
  case hb => exact cell_of X2.out 0
  case hc => exact cell_of X3.out 0
  case hd => exact cell_of X0.out 0
  case he => exact cell_of X1.out 0
  rintro e W2 ⟨rfl, hp⟩
  have HP := Lib.hid hp
  clear hp
  go_wp2_with fail
  go_ret
  exact ⟨rfl, post_keep KX.out HP.out (Keep.alloc _ _ _)⟩
set_option maxHeartbeats 1000000 in
theorem turn_arg (nb base : Nat) (most : Int) (v : Value) (ps : List Pk) (c0 c1 c2 c3 : Int) (i : Nat) (k : Int) (f : Int) (s : ByteArray) (b : UInt8) (w : World) (h : NetAt w nb base most v ps c0 c1 c2 c3) (hm : 1 ≤ most) (hi : ps[i]? = some (f, s)) (hk : k < 0 ∨ (s.size : Int) ≤ k) :
    Calls Try.prog 15 #[.pointer (some ⟨nb, 0, none⟩), .int .i64 i, .int .i64 k, .int .u8 (b.toNat : Int)] w fun e w' => e = .returned (.int .i64 2) ∧ NetPost nb base most v ps c0 c1 c2 c3 w w' := by
  have HW : Hid (∀ b0 b1 b2 b3 W, Keep (fun _ => False) w W → W.cell? ⟨b0, 0, none⟩ = some (.int .i64 k) → W.cell? ⟨b1, 0, none⟩ = some (.int .u8 (b.toNat : Int)) → W.cell? ⟨b2, 0, none⟩ = some (.pointer (some ⟨nb, 0, none⟩)) → W.cell? ⟨b3, 0, none⟩ = some (.int .i64 i) →
      Calls Try.prog 25 #[.pointer (some ⟨nb, 0, none⟩), .int .i64 i, .func (.func 29) #[] #[.pointer (some ⟨b0, 0, none⟩), .pointer (some ⟨b1, 0, none⟩), .pointer (some ⟨b2, 0, none⟩), .pointer (some ⟨b3, 0, none⟩)]] W fun e w' => e = .returned (.tuple #[.agg #[.int .i64 f, .string s], .int .i64 2]) ∧ NetPost nb base most v ps c0 c1 c2 c3 W w') :=
    fun b0 b1 b2 b3 W k0 h0 h1 h2 h3 => with29_ok nb base most v ps c0 c1 c2 c3 i f s b0 b1 b2 b3 2 ps c0 c1 c2 c3 W (h.keep0 k0) hm hi (fun W' k' =>
      have old : ∀ {q : Nat} {u : Value}, W.cell? ⟨q, 0, none⟩ = some u → W'.cell? ⟨q, 0, none⟩ = some u := fun hq => (k'.rules.1 _ 0 (World.block_lt_of_cell? W _ hq)).trans hq
      do29_arg nb base most v ps c0 c1 c2 c3 f k s b0 b1 b2 b3 W' ((h.keep0 k0).keep0 k') hk (old h0))
  clear h hi
  obtain ⟨r, hr⟩ : ∃ r, w.heap.size = r := ⟨_, rfl⟩
  have HR := Lib.hid hr
  obtain ⟨X, hX⟩ : ∃ X, X = ((((w.alloc (.cells #[.pointer (some ⟨nb, 0, none⟩)] 23)).alloc (.cells #[.int .i64 i] 3)).alloc (.cells #[.int .i64 k] 3)).alloc (.cells #[.int .u8 (b.toNat : Int)] 5)) := ⟨_, rfl⟩
  have KX : Hid (Keep (fun _ => False) w X) := by rw [hX]; exact (((Keep.alloc _ _ _).allocR _).allocR _).allocR _
  have X0 : Hid (X.heap[r]? = some (.cells #[.pointer (some ⟨nb, 0, none⟩)] 23 (0, 0))) := by
    rw [hX]
    refine (Keep.alloc (fun _ => False) _ _).heap ((Keep.alloc (fun _ => False) _ _).heap ((Keep.alloc (fun _ => False) _ _).heap (new_at _ _ _ _ ?_) (fun h => h)) (fun h => h)) (fun h => h)
    exact hr.symm
  have X1 : Hid (X.heap[r + 1]? = some (.cells #[.int .i64 i] 3 (0, 0))) := by
    rw [hX]
    refine (Keep.alloc (fun _ => False) _ _).heap ((Keep.alloc (fun _ => False) _ _).heap (new_at _ _ _ _ ?_) (fun h => h)) (fun h => h)
    simp [hr]
  have X2 : Hid (X.heap[r + 1 + 1]? = some (.cells #[.int .i64 k] 3 (0, 0))) := by
    rw [hX]
    refine (Keep.alloc (fun _ => False) _ _).heap (new_at _ _ _ _ ?_) (fun h => h)
    simp [hr]
  have X3 : Hid (X.heap[r + 1 + 1 + 1]? = some (.cells #[.int .u8 (b.toNat : Int)] 5 (0, 0))) := by
    rw [hX]
    refine new_at _ _ _ _ ?_
    simp [hr]
  have HX := Lib.hid hX
  clear hX
  go_enter Try.func15, Try.ntmps15
  go_wp2_with fail
  rw [← HX.out]
  with_reducible refine (HW.out _ _ _ _ _ ?ha ?hb ?hc ?hd ?he).mono ?_
  case ha => exact KX.out
  case hb => exact cell_of X2.out 0
  case hc => exact cell_of X3.out 0
  case hd => exact cell_of X0.out 0
  case he => exact cell_of X1.out 0
  rintro e W2 ⟨rfl, hp⟩
  have HP := Lib.hid hp
  clear hp
  go_wp2_with fail
  go_ret
  exact ⟨rfl, post_keep KX.out HP.out (Keep.alloc _ _ _)⟩
section
variable {w W : World} {nb : Nat} {most : Int} {ps : List Pk} {c0 c1 c2 c3 : Int} {P : Nat → Prop}
theorem Own.turn_ok (h : Own w W nb most ps c0 c1 c2 c3 P) (i k : Nat) (f : Int) (s : ByteArray) (b : UInt8) (hm : 1 ≤ most) (hi : ps[i]? = some (f, s)) (hk : k < s.size) :
    Calls Try.prog 15 #[.pointer (some ⟨nb, 0, none⟩), .int .i64 i, .int .i64 k, .int .u8 (b.toNat : Int)] W fun e w' => e = .returned (.int .i64 0) ∧ Own w w' nb most (ps.set i (f, turned s k b)) c0 c1 c2 c3 P ∧ Keep (fun i => ¬ P i) W w' := by
  obtain ⟨v, h1, h2, h3, h4⟩ := h
  exact (Ythcagpgdekhaeaa.turn_ok nb w.heap.size most v ps c0 c1 c2 c3 i k f s b W h1 hm hi hk).mono fun e w' ⟨he, hp⟩ => ⟨he, Own.post h2 h3 h1 h4 hp⟩
theorem Own.turn_arg (h : Own w W nb most ps c0 c1 c2 c3 P) (i : Nat) (k f : Int) (s : ByteArray) (b : UInt8) (hm : 1 ≤ most) (hi : ps[i]? = some (f, s)) (hk : k < 0 ∨ (s.size : Int) ≤ k) :
    Calls Try.prog 15 #[.pointer (some ⟨nb, 0, none⟩), .int .i64 i, .int .i64 k, .int .u8 (b.toNat : Int)] W fun e w' => e = .returned (.int .i64 2) ∧ Own w w' nb most ps c0 c1 c2 c3 P ∧ Keep (fun i => ¬ P i) W w' := by
  obtain ⟨v, h1, h2, h3, h4⟩ := h
  exact (Ythcagpgdekhaeaa.turn_arg nb w.heap.size most v ps c0 c1 c2 c3 i k f s b W h1 hm hi hk).mono fun e w' ⟨he, hp⟩ => ⟨he, Own.post h2 h3 h1 h4 hp⟩
end
end Go.Proofs.Ythcagpgdekhaeaa
