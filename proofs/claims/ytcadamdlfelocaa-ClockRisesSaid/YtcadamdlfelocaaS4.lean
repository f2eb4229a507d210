/- The later of stamps, walked, of both texts. -/
import Derived.Test.YtcadamdlfelocaaS3
namespace Go.Proofs.Ytcadamdlfelocaa
open Go.RowKit
/-- The stamp x lies in the whole block b. -/
def IsSt (w : World) (b : Nat) (x : St) : Prop := w.heap[b]? = some (.cells #[.int .i64 x.n, .int .i64 x.s] 29 (0, 0))
theorem IsSt.keep {S : Nat → Prop} {w w' : World} {b : Nat} {x : St} (h : IsSt w b x) (k : Keep S w w') (hs : ¬ S b) : IsSt w' b x := k.heap h hs
theorem IsSt.keep0 {w w' : World} {b : Nat} {x : St} (h : IsSt w b x) (k : Keep (fun _ => False) w w') : IsSt w' b x := k.heap h (fun h => h)
theorem IsSt.lt {w : World} {b : Nat} {x : St} (h : IsSt w b x) : b < w.heap.size := lt_of_block h
theorem IsSt.cells {w : World} {b : Nat} {x : St} (h : IsSt w b x) : w.cell? ⟨b, 0, none⟩ = some (.int .i64 x.n) ∧ w.cell? ⟨b, 1, none⟩ = some (.int .i64 x.s) ∧ w.frozen? ⟨b, 0, none⟩ = false ∧ w.frozen? ⟨b, 1, none⟩ = false :=
  ⟨cell_of h 0, cell_of h 1, free_of h 0, free_of h 1⟩
theorem IsSt.set {w : World} {b : Nat} {x : St} (h : IsSt w b x) (n s : Int) : IsSt ((w.setCell ⟨b, 0, none⟩ (.int .i64 n)).setCell ⟨b, 1, none⟩ (.int .i64 s)) b ⟨n, s⟩ :=
  heap_setCell_at (heap_setCell_at h)
/-- Stamps in a row. -/
def Sts (w : World) (b o : Nat) (l : List St) : Prop := ∀ (i : Nat) (x : St), l[i]? = some x → w.cell? ⟨b, o + i * 2, none⟩ = some (.int .i64 x.n) ∧ w.cell? ⟨b, o + i * 2 + 1, none⟩ = some (.int .i64 x.s)
theorem Sts.keep0 {w w' : World} {b o : Nat} {l : List St} (h : Sts w b o l) (k : Keep (fun _ => False) w w') : Sts w' b o l := by
  intro i x hx
  obtain ⟨h1, h2⟩ := h i x hx
  have hb : w'.heap[b]? = w.heap[b]? := k.block b (World.block_lt_of_cell? _ _ h1) (fun h => h)
  exact ⟨by rw [World.cell?_of_block (w := w) hb, h1], by rw [World.cell?_of_block (w := w) hb, h2]⟩
theorem less_yes (a b c d : Int) (h : (St.mk a b).less ⟨c, d⟩ = true) (w : World) : Calls Try.prog 10 #[.agg #[.int .i64 a, .int .i64 b], .agg #[.int .i64 c, .int .i64 d]] w fun e w' => e = .returned (.bool true) ∧ Keep (fun _ => False) w w' :=
  (less_any ⟨a, b⟩ ⟨c, d⟩ w).mono fun _ _ ⟨h1, h2⟩ => ⟨by rw [h1, h], h2⟩
theorem less_no (a b c d : Int) (h : (St.mk a b).less ⟨c, d⟩ = false) (w : World) : Calls Try.prog 10 #[.agg #[.int .i64 a, .int .i64 b], .agg #[.int .i64 c, .int .i64 d]] w fun e w' => e = .returned (.bool false) ∧ Keep (fun _ => False) w w' :=
  (less_any ⟨a, b⟩ ⟨c, d⟩ w).mono fun _ _ ⟨h1, h2⟩ => ⟨by rw [h1, h], h2⟩
theorem rless_yes (a b c d : Int) (h : (St.mk a b).less ⟨c, d⟩ = true) (w : World) : Calls Try.prog 30 #[.agg #[.int .i64 a, .int .i64 b], .agg #[.int .i64 c, .int .i64 d]] w fun e w' => e = .returned (.bool true) ∧ Keep (fun _ => False) w w' :=
  (rless_any ⟨a, b⟩ ⟨c, d⟩ w).mono fun _ _ ⟨h1, h2⟩ => ⟨by rw [h1, h], h2⟩
theorem rless_no (a b c d : Int) (h : (St.mk a b).less ⟨c, d⟩ = false) (w : World) : Calls Try.prog 30 #[.agg #[.int .i64 a, .int .i64 b], .agg #[.int .i64 c, .int .i64 d]] w fun e w' => e = .returned (.bool false) ∧ Keep (fun _ => False) w w' :=
  (rless_any ⟨a, b⟩ ⟨c, d⟩ w).mono fun _ _ ⟨h1, h2⟩ => ⟨by rw [h1, h], h2⟩
theorem later_step (l : List St) (k : Nat) (x : St) (h : l[k]? = some x) : (l.take (k + 1)).foldl St.later ⟨0, 0⟩ = ((l.take k).foldl St.later ⟨0, 0⟩).later x := by
  rw [List.take_add_one, h, List.foldl_append]; rfl
set_option maxHeartbeats 1000000 in
theorem later_any (l : List St) (b o cap : Nat) (w : World) (hl : l.length ≤ 1000) (hc : Sts w b o l) :
    Calls Try.prog 21 #[.slice (some ⟨b, o, none⟩) l.length cap] w fun e w' => e = .returned (l.foldl St.later ⟨0, 0⟩).v ∧ Keep (fun _ => False) w w' := by
  obtain ⟨n, hn⟩ : ∃ n, n = l.length := ⟨_, rfl⟩
  rw [← hn] at hl
  rw [← hn]
  have HN := Lib.hid hn
  have HC := Lib.hid hc
  clear hn hc
  go_enter Try.func21, Try.ntmps21
  go_wp2_with fail
  obtain ⟨r, hr⟩ : ∃ r, r = w.heap.size := ⟨_, rfl⟩
  rw [← hr]
  generalize hwa : w.alloc (Obj.cells #[Value.int IntKind.i64 0, Value.int IntKind.i64 0] 29) = wa
  have H0 : Hid (IsSt wa r ⟨0, 0⟩) := by rw [← hwa, hr]; exact heap_alloc_new w _
  have K0 : Hid (Keep (fun _ => False) w wa) := by rw [← hwa]; exact Keep.alloc _ _ _
  have HR := Lib.hid hr
  clear hr hwa
  go_loopw [7] (fun i wr => ∃ k : Nat, k ≤ n ∧ i = .int .i64 k ∧ IsSt wr r ((l.take k).foldl St.later ⟨0, 0⟩) ∧ Keep (fun _ => False) w wr) (fun i _ => n - (intOf i).toNat)
  case atStart => exact ⟨0, by omega, rfl, H0.out, K0.out⟩
  case round =>
    obtain ⟨k, hk, rfl, hst, hkp⟩ := hrel
    have HK := Lib.hid hkp
    have HL := Lib.hid (HC.out.keep0 hkp)
    clear hkp H0 K0
    by_cases hlt : k < n
    · obtain ⟨x, hx⟩ : ∃ x, l[k]? = some x := ⟨_, List.getElem?_eq_getElem (by rw [← HN.out]; exact hlt)⟩
      obtain ⟨d1, d2⟩ := HL.out k x hx
      have hs := later_step l k x hx
      have HX := Lib.hid hx
      generalize (l.take k).foldl St.later ⟨0, 0⟩ = y at *
      obtain ⟨yn, ys⟩ := y
      obtain ⟨xn, xs⟩ := x
      have HS := Lib.hid hs
      have HY := Lib.hid hst
      have hp : (0 : Int) ≤ k := by omega
      have hlt' : (k : Int) < n := by omega
      clear hx hs hst
      dsimp only at d1 d2
      go_upto_region 4 with fail
      generalize hwx : wr.alloc (Obj.cells #[Value.int IntKind.i64 xn, Value.int IntKind.i64 xs] 29) = wx
      obtain ⟨q, hq⟩ : ∃ q, q = wr.heap.size := ⟨_, rfl⟩
      rw [← hq]
      have kx : Keep (fun _ => False) wr wx := by rw [← hwx]; exact Keep.alloc _ _ _
      have HQ : Hid (IsSt wx q ⟨xn, xs⟩) := by rw [← hwx, hq]; exact heap_alloc_new wr _
      have HY' := Lib.hid (HY.out.keep0 kx)
      have HK' := Lib.hid (HK.out.trans kx)
      obtain ⟨q1, q2, _, _⟩ := HQ.out.cells
      obtain ⟨y1, y2, _, _⟩ := HY'.out.cells
      dsimp only at q1 q2 y1 y2
      clear hwx hq kx d1 d2 HY HK HL
      by_cases hg : (St.mk xn xs).good = true
      · by_cases hle : (St.mk yn ys).less ⟨xn, xs⟩ = true
        · have hlat : (St.mk yn ys).later ⟨xn, xs⟩ = ⟨xn, xs⟩ := by unfold St.later; rw [if_pos ⟨hg, hle⟩]
          have HG := Lib.hid hg
          have HE := Lib.hid hle
          have HT := Lib.hid (HS.out.trans hlat)
          clear hg hle hlat
          go_wp2_with (first
            | (go_at_call 19; refine (good_yes _ _ HG.out _).mono ?_; rintro e w1 ⟨rfl, hk1⟩; have HK1 := Lib.hid (HK'.out.trans hk1); have HQ1 := Lib.hid (HQ.out.keep0 hk1); have HY1 := Lib.hid (HY'.out.keep0 hk1); obtain ⟨u1, u2, _, _⟩ := HQ1.out.cells; obtain ⟨v1, v2, _, _⟩ := HY1.out.cells; dsimp only at u1 u2 v1 v2; clear hk1)
            | (go_at_call 10; refine (less_yes _ _ _ _ HE.out _).mono ?_; rintro e w2 ⟨rfl, hk2⟩; have HK2 := Lib.hid (HK1.out.trans hk2); have HQ2 := Lib.hid (HQ1.out.keep0 hk2); have HY2 := Lib.hid (HY1.out.keep0 hk2); obtain ⟨s1, s2, _, _⟩ := HQ2.out.cells; obtain ⟨t1, t2, t3, t4⟩ := HY2.out.cells; dsimp only at s1 s2 t1 t2; clear hk2))
          go_roundw
          case rel => exact ⟨k + 1, by omega, by go_num, by rw [HT.out]; exact HY2.out.set xn xs, (HK2.out.setNew (by have := HR.out; dsimp only; omega) _).setNew (by have := HR.out; dsimp only; omega) _⟩
          case measure => simp [intOf] <;> omega
        · have hlat : (St.mk yn ys).later ⟨xn, xs⟩ = ⟨yn, ys⟩ := by unfold St.later; rw [if_neg (fun h => hle h.2)]
          have HG := Lib.hid hg
          have HE : Hid ((St.mk yn ys).less ⟨xn, xs⟩ = false) := Bool.eq_false_iff.2 hle
          have HT := Lib.hid (HS.out.trans hlat)
          clear hg hle hlat
          go_wp2_with (first
            | (go_at_call 19; refine (good_yes _ _ HG.out _).mono ?_; rintro e w1 ⟨rfl, hk1⟩; have HK1 := Lib.hid (HK'.out.trans hk1); have HQ1 := Lib.hid (HQ.out.keep0 hk1); have HY1 := Lib.hid (HY'.out.keep0 hk1); obtain ⟨u1, u2, _, _⟩ := HQ1.out.cells; obtain ⟨v1, v2, _, _⟩ := HY1.out.cells; dsimp only at u1 u2 v1 v2; clear hk1)
            | (go_at_call 10; refine (less_no _ _ _ _ HE.out _).mono ?_; rintro e w2 ⟨rfl, hk2⟩; have HK2 := Lib.hid (HK1.out.trans hk2); have HQ2 := Lib.hid (HQ1.out.keep0 hk2); have HY2 := Lib.hid (HY1.out.keep0 hk2); obtain ⟨s1, s2, _, _⟩ := HQ2.out.cells; obtain ⟨t1, t2, t3, t4⟩ := HY2.out.cells; dsimp only at s1 s2 t1 t2; clear hk2))
          go_roundw
          case rel => exact ⟨k + 1, by omega, by go_num, by rw [HT.out]; exact HY2.out, HK2.out⟩
          case measure => simp [intOf] <;> omega
      · have hlat : (St.mk yn ys).later ⟨xn, xs⟩ = ⟨yn, ys⟩ := by unfold St.later; rw [if_neg (fun h => hg h.1)]
        have HG : Hid ((St.mk xn xs).good = false) := Bool.eq_false_iff.2 hg
        have HT := Lib.hid (HS.out.trans hlat)
        clear hg hlat
        go_wp2_with ((go_at_call 19; refine (good_no _ _ HG.out _).mono ?_; rintro e w1 ⟨rfl, hk1⟩; have HK1 := Lib.hid (HK'.out.trans hk1); have HQ1 := Lib.hid (HQ.out.keep0 hk1); have HY1 := Lib.hid (HY'.out.keep0 hk1); obtain ⟨u1, u2, _, _⟩ := HQ1.out.cells; obtain ⟨v1, v2, _, _⟩ := HY1.out.cells; dsimp only at u1 u2 v1 v2; clear hk1))
        go_roundw
        case rel => exact ⟨k + 1, by omega, by go_num, by rw [HT.out]; exact HY1.out, HK1.out⟩
        case measure => simp [intOf] <;> omega
    · obtain rfl : k = n := by omega
      have hall : l.take k = l := by rw [HN.out]; exact List.take_length
      rw [hall] at hst
      obtain ⟨y, hy⟩ : ∃ y, y = l.foldl St.later ⟨0, 0⟩ := ⟨_, rfl⟩
      rw [← hy] at hst
      obtain ⟨yn, ys⟩ := y
      have HYE := Lib.hid hy
      clear hy
      have HY := Lib.hid hst
      obtain ⟨y1, y2, y3, y4⟩ := hst.cells
      dsimp only at y1 y2
      clear hst hall HL
      go_wp2_with fail
      exact bodyPost_ret (v := .agg #[.int .i64 yn, .int .i64 ys]) (by simp [results, Try.results21, go_sem, *]) rfl
        ⟨by rw [← HYE.out]; rfl, (HK.out.setNew (by have := HR.out; dsimp only; omega) _).setNew (by have := HR.out; dsimp only; omega) _⟩
end Go.Proofs.Ytcadamdlfelocaa
