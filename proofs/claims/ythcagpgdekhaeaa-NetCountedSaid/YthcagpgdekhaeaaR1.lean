/- The reference's net: how it lies in memory; Look, out, the counts. -/
import Derived.Test.YthcagpgdekhaeaaN10
import Derived.Test.YthcagpgdekhaeaaFact5
import Derived.LoopTactic
namespace Go.Proofs.Ythcagpgdekhaeaa
open Go.RowKit
theorem ownsRow_base {w : World} {base base' : Nat} {e : TypeId} {size : Nat} {v : Value} {n : Nat} {xs : List Value} (h : w.ownsRow base e size v n xs) (hb : base' ≤ base) : w.ownsRow base' e size v n xs := by
  refine ⟨h.1, ?_⟩
  rcases h.2 with hn | ⟨g, cap, cur, rfl, hg, rest⟩
  · exact .inl hn
  · exact .inr ⟨g, cap, cur, rfl, Nat.le_trans hb hg, rest⟩
structure RefAt (w : World) (rb base : Nat) (most : Int) (v : Value) (ps : List Pk) (c0 c1 c2 c3 : Int) : Prop where
  block : w.heap[rb]? = some (.cells #[.int .i64 most, v, .int .i64 c0, .int .i64 c1, .int .i64 c2, .int .i64 c3] 65 (0, 0))
  row : w.ownsRow base 34 2 v ps.length (flat ps)
theorem RefAt.keep {S : Nat → Prop} {w w' : World} {rb base : Nat} {most : Int} {v : Value} {ps : List Pk} {c0 c1 c2 c3 : Int} (h : RefAt w rb base most v ps c0 c1 c2 c3) (k : Keep S w w') (hn : ¬ S rb) (hr : ∀ g, v.ownBlock = some g → ¬ S g) : RefAt w' rb base most v ps c0 c1 c2 c3 :=
  ⟨k.heap h.block hn, ownsRow_keep' h.row k hr⟩
theorem RefAt.keep0 {w w' : World} {rb base : Nat} {most : Int} {v : Value} {ps : List Pk} {c0 c1 c2 c3 : Int} (h : RefAt w rb base most v ps c0 c1 c2 c3) (k : Keep (fun _ => False) w w') : RefAt w' rb base most v ps c0 c1 c2 c3 :=
  h.keep k (fun h => h) (fun _ _ h => h)
theorem RefAt.slice {w : World} {rb base : Nat} {most : Int} {v : Value} {ps : List Pk} {c0 c1 c2 c3 : Int} (h : RefAt w rb base most v ps c0 c1 c2 c3) : ∃ a cap, v = .slice a ps.length cap ∧ ps.length ≤ cap ∧ cap ≤ maxLen := by
  obtain ⟨a, cap, h1, h2, h3⟩ := own_len h.row
  exact ⟨a, cap, h1, h3, h2⟩
theorem RefAt.not {w : World} {rb base : Nat} {most : Int} {v : Value} {ps : List Pk} {c0 c1 c2 c3 : Int} (h : RefAt w rb base most v ps c0 c1 c2 c3) : v.ownBlock ≠ some rb := by
  intro e
  rcases h.row.2 with ⟨rfl, _⟩ | ⟨g, cap, cur, rfl, _, hg, _⟩
  · simp [Value.ownBlock] at e
  · simp [Value.ownBlock] at e
    subst e
    have := h.block
    rw [hg] at this
    simp at this
theorem RefAt.packet {w : World} {rb base : Nat} {most : Int} {a : Option Addr} {cap : Nat} {ps : List Pk} {c0 c1 c2 c3 : Int} (h : RefAt w rb base most (.slice a ps.length cap) ps c0 c1 c2 c3) (i : Nat) (p : Pk) (hp : ps[i]? = some p) :
    ∃ g, a = some ⟨g, 0, none⟩ ∧ base ≤ g ∧ g ≠ rb ∧ w.cell? ⟨g, i * 2, none⟩ = some (.int .i64 p.1) ∧ w.cell? ⟨g, i * 2 + 1, none⟩ = some (.string p.2) := by
  have hi : i < ps.length := (List.getElem?_eq_some_iff.1 hp).1
  have hnot := h.not
  rcases h.row.2 with ⟨hv, hn⟩ | ⟨g, cap', cur, hv, hb, hg, hc, hm, hs, ht⟩
  · omega
  · simp only [Value.slice.injEq] at hv
    obtain ⟨rfl, _, rfl⟩ := hv
    have key : ∀ j, j < ps.length * 2 → cur[j]? = (flat ps)[j]? := fun j hj => by
      rw [← ht, List.getElem?_take, if_pos hj]
      simp
    obtain ⟨f1, f2⟩ := flat_at ps i p hp
    refine ⟨g, rfl, hb, fun e => hnot (by simp [Value.ownBlock, e]), ?_, ?_⟩
    · rw [cell_of hg, key _ (by omega)]; exact f1
    · rw [cell_of hg, key _ (by omega)]; exact f2
/-- What a step of the reference leaves: its row where it lay, or in a new block; nothing else is written. -/
def RefPost (rb base : Nat) (most : Int) (v : Value) (ps : List Pk) (c0 c1 c2 c3 : Int) (w w' : World) : Prop :=
  ∃ v', RefAt w' rb base most v' ps c0 c1 c2 c3 ∧ (∀ g, v'.ownBlock = some g → v.ownBlock = some g ∨ w.heap.size ≤ g) ∧ Keep (fun i => i = rb) w w'
theorem ref_new_none (most : Int) (w : World) (h : most < 1 ∨ 64 < most) : Calls Try.prog 17 #[.int .i64 most] w fun e w' => e = .returned (.pointer none) ∧ w' = w := by
  rcases h with h | h
  · go_enter Try.func17, Try.ntmps17
    go_wp2
    go_ret
    exact ⟨rfl, rfl⟩
  · have h1 : ¬ most < 1 := by omega
    go_enter Try.func17, Try.ntmps17
    go_wp2
    go_ret
    exact ⟨rfl, rfl⟩
theorem ref_new (most : Int) (w : World) (h1 : 1 ≤ most) (h2 : most ≤ 64) : Calls Try.prog 17 #[.int .i64 most] w fun e w' => ∃ rb, e = .returned (.pointer (some ⟨rb, 0, none⟩)) ∧ w.heap.size ≤ rb ∧ RefAt w' rb w.heap.size most (.slice none 0 0) [] 0 0 0 0 ∧ Keep (fun _ => False) w w' := by
  have g1 : ¬ most < 1 := by omega
  have g2 : ¬ 64 < most := by omega
  go_enter Try.func17, Try.ntmps17
  go_wp2
  go_ret
  exact ⟨_, rfl, Nat.le_refl _, ⟨heap_alloc_new w _, World.ownsRow_nil _ _ _ _⟩, Keep.alloc _ _ _⟩
set_option maxHeartbeats 400000 in
theorem ref_look_bad (rb base : Nat) (most : Int) (v : Value) (ps : List Pk) (c0 c1 c2 c3 : Int) (i : Int) (w : World) (h : RefAt w rb base most v ps c0 c1 c2 c3) (hi : i < 0 ∨ (ps.length : Int) ≤ i) :
    Calls Try.prog 35 #[.pointer (some ⟨rb, 0, none⟩), .int .i64 i] w fun e w' => e = .returned (.tuple #[.agg #[.int .i64 0, .string ⟨#[]⟩], .int .i64 211]) ∧ Keep (fun _ => False) w w' := by
  have hnb : rb < w.heap.size := lt_of_block h.block
  obtain ⟨a, cp, rfl, h1, h2⟩ := h.slice
  have d1 : w.cell? ⟨rb, 1, none⟩ = some (.slice a ps.length cp) := cell_of h.block 1
  clear h
  unfold maxLen at h2
  generalize ps.length = n at *
  rcases hi with hi | hi
  · go_enter Try.func35, Try.ntmps35
    go_wp2
    exact bodyPost_ret (v := .tuple #[.agg #[.int .i64 0, .string ⟨#[]⟩], .int .i64 211]) (by simp [results, Try.results35, go_sem]) rfl ⟨rfl, Keep.alloc _ _ _⟩
  · have h0 : ¬ i < 0 := by omega
    go_enter Try.func35, Try.ntmps35
    go_wp2
    exact bodyPost_ret (v := .tuple #[.agg #[.int .i64 0, .string ⟨#[]⟩], .int .i64 211]) (by simp [results, Try.results35, go_sem]) rfl ⟨rfl, Keep.alloc _ _ _⟩
set_option maxHeartbeats 400000 in
theorem ref_look_ok (rb base : Nat) (most : Int) (v : Value) (ps : List Pk) (c0 c1 c2 c3 : Int) (i : Nat) (f : Int) (s : ByteArray) (w : World) (h : RefAt w rb base most v ps c0 c1 c2 c3) (hi : ps[i]? = some (f, s)) :
    Calls Try.prog 35 #[.pointer (some ⟨rb, 0, none⟩), .int .i64 i] w fun e w' => e = .returned (.tuple #[.agg #[.int .i64 f, .string s], .int .i64 0]) ∧ Keep (fun _ => False) w w' := by
  have hnb : rb < w.heap.size := lt_of_block h.block
  have hlt : i < ps.length := (List.getElem?_eq_some_iff.1 hi).1
  obtain ⟨a, cp, rfl, h1, h2⟩ := h.slice
  have d1 : w.cell? ⟨rb, 1, none⟩ = some (.slice a ps.length cp) := cell_of h.block 1
  obtain ⟨g, rfl, _, hg, p0, p1⟩ := h.packet i (f, s) hi
  dsimp only at p0 p1
  have hgl : g < w.heap.size := World.block_lt_of_cell? w _ p0
  clear h hi hg
  unfold maxLen at h2
  generalize ps.length = n at *
  go_enter Try.func35, Try.ntmps35
  go_wp2
  exact bodyPost_ret (v := .tuple #[.agg #[.int .i64 f, .string s], .int .i64 0]) (by simp [results, Try.results35, go_sem]) rfl ⟨rfl, Keep.alloc _ _ _⟩
/-- The first k packets but packet i. -/
def but (ps : List Pk) (i k : Nat) : List Pk := (ps.take k).eraseIdx i
theorem but_succ (ps : List Pk) (i k : Nat) (p : Pk) (h : ps[k]? = some p) : but ps i (k + 1) = if k = i then but ps i k else but ps i k ++ [p] := by
  have hk : k < ps.length := (List.getElem?_eq_some_iff.1 h).1
  have hp : ps[k] = p := by
    rw [List.getElem?_eq_getElem hk] at h
    simpa using h
  have hl : (ps.take k).length = k := by simp; omega
  unfold but
  rw [List.take_succ_eq_append_getElem hk, hp]
  by_cases hki : k = i
  · subst hki
    rw [if_pos rfl, List.eraseIdx_append_of_length_le (by omega), hl, Nat.sub_self, List.eraseIdx_cons_zero, List.append_nil, List.eraseIdx_of_length_le (by omega)]
  · rw [if_neg hki]
    by_cases hlt : i < k
    · rw [List.eraseIdx_append_of_lt_length (by omega)]
    · rw [List.eraseIdx_append_of_length_le (by omega), List.eraseIdx_of_length_le (l := ps.take k) (by omega), List.eraseIdx_of_length_le (by simp; omega)]
theorem but_len (ps : List Pk) (i k : Nat) : (but ps i k).length ≤ ps.length := by
  have h1 := List.length_eraseIdx_le (l := ps.take k) (i := i)
  have h2 : (ps.take k).length ≤ ps.length := by simp; omega
  unfold but
  omega
theorem but_all (ps : List Pk) (i : Nat) : but ps i ps.length = ps.eraseIdx i := by unfold but; rw [List.take_length]
set_option maxHeartbeats 2000000 in
theorem ref_out (rb base : Nat) (most : Int) (v : Value) (ps : List Pk) (c0 c1 c2 c3 : Int) (i : Nat) (w : World) (h : RefAt w rb base most v ps c0 c1 c2 c3) (h64 : ps.length ≤ 64) (hb : base ≤ w.heap.size) :
    Calls Try.prog 39 #[.pointer (some ⟨rb, 0, none⟩), .int .i64 i] w fun e w' => e = .returned (.tuple #[]) ∧ RefPost rb base most v (ps.eraseIdx i) c0 c1 c2 c3 w w' := by
  obtain ⟨i0, hi, hz0, hz1, hz2⟩ := info_parts Try.info34
  have hrb : rb < w.heap.size := lt_of_block h.block
  have HH := Lib.hid h
  obtain ⟨a, cp, hv, h1, h2⟩ := h.slice
  subst hv
  clear h
  unfold maxLen at h2
  obtain ⟨n, hn⟩ : ∃ n, ps.length = n := ⟨_, rfl⟩
  have HN := Lib.hid hn
  rw [hn] at h1 h64
  go_enter Try.func39, Try.ntmps39
  go_wp2_with fail
  clear hn
  go_loopw [4, 5] (fun vl t wr => ∃ k : Nat, k ≤ n ∧ t = .int .i64 k ∧ wr.ownsRow w.heap.size 34 2 vl (but ps i k).length (flat (but ps i k)) ∧ Keep (fun _ => False) w wr) (fun _ t _ => n - (intOf t).toNat)
  case atStart => exact ⟨0, Nat.zero_le _, rfl, by simp [but, flat, World.ownsRow_nil], Keep.refl _ _⟩
  case round =>
    obtain ⟨k, hk, rfl, ho, kw⟩ := hrel
    have HO := Lib.hid ho
    have KW := Lib.hid kw
    have d1 : wr.cell? ⟨rb, 1, none⟩ = some (.slice a ps.length cp) := cell_of (kw.heap HH.out.block (fun h => h)) 1
    have hrw : rb < wr.heap.size := Nat.lt_of_lt_of_le hrb kw.size
    rw [HN.out] at d1
    clear ho kw
    by_cases hlt : k < n
    · obtain ⟨p, hp⟩ : ∃ p, ps[k]? = some p := ⟨_, List.getElem?_eq_getElem (by rw [HN.out]; exact hlt)⟩
      have HS := Lib.hid (but_succ ps i k p hp)
      by_cases hki : k = i
      · have hq : ((k : Int) != (i : Int)) = false := by simp [hki]
        go_wp2_with fail
        go_roundw
        case rel => exact ⟨k + 1, by omega, by go_num, by rw [HS.out, if_pos hki]; exact HO.out, KW.out⟩
        case measure => simp [intOf]; omega
      · have hq : ((k : Int) != (i : Int)) = true := by rw [bne_iff_ne]; omega
        obtain ⟨g, rfl, _, hgr, p0, p1⟩ := (HH.out.keep0 KW.out).packet k p hp
        have hgl : g < wr.heap.size := World.block_lt_of_cell? wr _ p0
        have hbl : (but ps i k).length ≤ 64 := by have := but_len ps i k; rw [HN.out] at this; omega
        clear hp hgr
        go_wp2_with (at_builtin; refine wpList_append_lies _ rfl _ _ 27 rfl w.heap.size 34 i0 (.agg #[.int .i64 0, .string ⟨#[]⟩]) 2 24 Try.underlying27 hi hz0 hz1 hz2 rfl (by decide) _ _ _ rfl (HO.out.alloc _) ⟨wr.heap.size, 0, none⟩ 1 1 [.int .i64 p.1, .string p.2] rfl rfl (two_news (heap_alloc_new _ _)) (two_one p.1 p.2) (by decide) ?c3 ?c4 ?c5 _ rfl ?_)
        case c3 => unfold maxLen; omega
        case c4 => omega
        case c5 => exact Nat.le_trans KW.out.size (by simp)
        intro g2 cap2 w2 hown hgrow hat hlt2
        have HO2 : Hid (w2.ownsRow w.heap.size 34 2 (.slice (some ⟨g2, 0, none⟩) ((but ps i k).length + 1) cap2) (but ps i (k + 1)).length (flat (but ps i (k + 1)))) := by
          rw [HS.out, if_neg hki, flat_append, List.length_append]
          exact hown
        have KW2 : Hid (Keep (fun _ => False) w w2) := (KW.out.allocR _).own (HO.out.alloc _) hgrow
        clear hown hgrow hat hlt2 p0 p1 d1
        go_wp2_with fail
        go_roundw
        case rel => exact ⟨k + 1, by omega, by go_num, HO2.out, KW2.out⟩
        case measure => simp [intOf]; omega
    · have hkn : k = n := by omega
      subst hkn
      have d2 : wr.frozen? ⟨rb, 1, none⟩ = false := free_of (KW.out.heap HH.out.block (fun h => h)) 1
      obtain ⟨al, cl, hvl, _, _⟩ := own_len HO.out
      subst hvl
      go_wp2_with fail
      refine bodyPost_end (v := .tuple #[]) (by simp [results, Try.results39, go_sem]) rfl ⟨rfl, ?_⟩
      have hB : wr.heap[rb]? = some (.cells #[.int .i64 most, .slice a ps.length cp, .int .i64 c0, .int .i64 c1, .int .i64 c2, .int .i64 c3] 65 (0, 0)) := KW.out.heap HH.out.block (fun h => h)
      have hO := HO.out
      rw [← HN.out, but_all] at hO
      have hO' := hO
      rw [← but_all, HN.out] at hO'
      refine ⟨.slice al (but ps i k).length cl, ⟨heap_setCell_at hB, ?_⟩, ?_, (KW.out.mono (fun _ h => h.elim)).trans (Keep.setCell _ _ rfl)⟩
      · rw [← HN.out, but_all]
        rw [← HN.out, but_all] at hO'
        exact ownsRow_base (ownsRow_keep' hO' (Keep.setCell (S := fun j => j = rb) _ _ rfl) (fun j hj e => by
          have := (hO'.lt j hj).1
          omega)) hb
      · exact fun g hg => .inr (HO.out.lt g hg).1
end Go.Proofs.Ythcagpgdekhaeaa
