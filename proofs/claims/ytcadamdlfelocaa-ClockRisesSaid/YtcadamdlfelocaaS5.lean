/- The later of stamps of the reference, walked. -/
import Derived.Test.YtcadamdlfelocaaS4
namespace Go.Proofs.Ytcadamdlfelocaa
open Go.RowKit
set_option maxHeartbeats 1000000 in
theorem rlater_any (l : List St) (b o cap : Nat) (w : World) (hl : l.length ≤ 1000) (hc : Sts w b o l) :
    Calls Try.prog 24 #[.slice (some ⟨b, o, none⟩) l.length cap] w fun e w' => e = .returned (l.foldl St.later ⟨0, 0⟩).v ∧ Keep (fun _ => False) w w' := by
  obtain ⟨n, hn⟩ : ∃ n, n = l.length := ⟨_, rfl⟩
  rw [← hn] at hl
  rw [← hn]
  have HN := Lib.hid hn
  have HC := Lib.hid hc
  clear hn hc
  go_enter Try.func24, Try.ntmps24
  go_wp2_with fail
  obtain ⟨r2, hr2⟩ : ∃ r, r = w.heap.size := ⟨_, rfl⟩
  rw [← hr2]
  generalize hwb : w.alloc (Obj.cells #[Value.int IntKind.i64 0, Value.int IntKind.i64 0] 29) = wb
  obtain ⟨r, hr⟩ : ∃ r, r = r2 + 1 := ⟨_, rfl⟩
  rw [← hr]
  generalize hwa : wb.alloc (Obj.cells #[Value.int IntKind.i64 0, Value.int IntKind.i64 0] 29) = wa
  have hrb : r = wb.heap.size := by rw [hr, hr2, ← hwb]; simp
  have G0 : Hid (IsSt wb r2 ⟨0, 0⟩) := by rw [← hwb, hr2]; exact heap_alloc_new w _
  have G1 : Hid (IsSt wa r2 ⟨0, 0⟩) := by rw [← hwa]; exact G0.out.keep0 (Keep.alloc _ _ _)
  have H0 : Hid (IsSt wa r ⟨0, 0⟩) := by rw [← hwa, hrb]; exact heap_alloc_new wb _
  have K0 : Hid (Keep (fun _ => False) w wa) := by rw [← hwa, ← hwb]; exact (Keep.alloc _ _ _).allocR _
  have HR : Hid (r2 = w.heap.size ∧ r = w.heap.size + 1) := ⟨hr2, by rw [hr, hr2]⟩
  clear hr hr2 hrb hwa hwb G0
  go_loopw [4] (fun i wr => ∃ k : Nat, k ≤ n ∧ i = .int .i64 k ∧ IsSt wr r ((l.take k).foldl St.later ⟨0, 0⟩) ∧ IsSt wr r2 ⟨0, 0⟩ ∧ Keep (fun _ => False) w wr) (fun i _ => n - (intOf i).toNat)
  case atStart => exact ⟨0, by omega, rfl, H0.out, G1.out, K0.out⟩
  case round =>
    obtain ⟨k, hk, rfl, hst, hst2, hkp⟩ := hrel
    have HK := Lib.hid hkp
    have HL := Lib.hid (HC.out.keep0 hkp)
    have HZ := Lib.hid hst2
    clear hkp H0 K0 hst2 G1
    by_cases hlt : k < n
    · obtain ⟨x, hx⟩ : ∃ x, l[k]? = some x := ⟨_, List.getElem?_eq_getElem (by rw [← HN.out]; exact hlt)⟩
      obtain ⟨d1, d2⟩ := HL.out k x hx
      have hs := later_step l k x hx
      have HX := Lib.hid hx
      generalize (l.take k).foldl St.later ⟨0, 0⟩ = y at *
      obtain ⟨yn, ys⟩ := y
      obtain ⟨xn, xs⟩ := x
      have HS := Lib.hid hs
      have HY := Lib.hid hst
      have hp : (0 : Int) ≤ k := by omega
      have hlt' : (k : Int) < n := by omega
      obtain ⟨y1, y2, y3, y4⟩ := hst.cells
      have hbl := World.block_lt_of_cell? _ _ d1
      have hrl := hst.lt
      clear hx hs hst
      dsimp only at d1 d2 y1 y2 hbl
      have hR := (Later.rules wr).1
      by_cases hg : (St.mk xn xs).good = true
      · by_cases hle : (St.mk yn ys).less ⟨xn, xs⟩ = true
        · have hlat : (St.mk yn ys).later ⟨xn, xs⟩ = ⟨xn, xs⟩ := by unfold St.later; rw [if_pos ⟨hg, hle⟩]
          have HG := Lib.hid hg
          have HE := Lib.hid hle
          have HT := Lib.hid (HS.out.trans hlat)
          clear hg hle hlat
          go_wp2_with fail
          refine wp_region_later (by kernel_rfl) (by kernel_rfl) ?_
          repeat (refine wpQuiet_step (fun K hK => ?_); go_simp; first | (refine hK _ ?_; clear hK K) | (apply Exists.intro; refine ⟨fun _ => ?_, hK _ ?_⟩; (first | (go_at_call 23; exact Later.call (rgood_yes _ _ HG.out _)) | (go_at_call 30; exact Later.call (rless_yes _ _ _ _ HE.out _))); clear hK K))
          refine wpQuiet_nil ?_
          intro _ hw'
          obtain ⟨g, hw''⟩ := hw'
          subst hw''
          have HKg := Lib.hid (HK.out.trans g.keep)
          have HYg := Lib.hid (HY.out.keep0 g.keep)
          have HZg := Lib.hid (HZ.out.keep0 g.keep)
          have HLg := Lib.hid (HL.out.keep0 g.keep)
          obtain ⟨e1, e2⟩ := HLg.out k _ HX.out
          obtain ⟨f1, f2, f3, f4⟩ := HYg.out.cells
          dsimp only at e1 e2 f1 f2
          clear hR d1 d2 y1 y2 y3 y4 HL HY HZ HK
          go_wp2_with fail
          go_roundw
          case rel => exact ⟨k + 1, by omega, by go_num, by rw [HT.out]; exact HYg.out.set xn xs, (HZg.out.keep (Keep.setCell (S := (· = r)) _ _ rfl) (by have := HR.out; omega)).keep (Keep.setCell (S := (· = r)) _ _ rfl) (by have := HR.out; omega), (HKg.out.setNew (by have := HR.out; dsimp only; omega) _).setNew (by have := HR.out; dsimp only; omega) _⟩
          case measure => simp [intOf] <;> omega
        · have hlat : (St.mk yn ys).later ⟨xn, xs⟩ = ⟨yn, ys⟩ := by unfold St.later; rw [if_neg (fun h => hle h.2)]
          have HG := Lib.hid hg
          have HE : Hid ((St.mk yn ys).less ⟨xn, xs⟩ = false) := Bool.eq_false_iff.2 hle
          have HT := Lib.hid (HS.out.trans hlat)
          clear hg hle hlat
          go_wp2_with fail
          refine wp_region_later (by kernel_rfl) (by kernel_rfl) ?_
          repeat (refine wpQuiet_step (fun K hK => ?_); go_simp; first | (refine hK _ ?_; clear hK K) | (apply Exists.intro; refine ⟨fun _ => ?_, hK _ ?_⟩; (first | (go_at_call 23; exact Later.call (rgood_yes _ _ HG.out _)) | (go_at_call 30; exact Later.call (rless_no _ _ _ _ HE.out _))); clear hK K))
          refine wpQuiet_nil ?_
          intro _ hw'
          obtain ⟨g, hw''⟩ := hw'
          subst hw''
          have HKg := Lib.hid (HK.out.trans g.keep)
          have HYg := Lib.hid (HY.out.keep0 g.keep)
          have HZg := Lib.hid (HZ.out.keep0 g.keep)
          have HLg := Lib.hid (HL.out.keep0 g.keep)
          obtain ⟨e1, e2⟩ := HLg.out k _ HX.out
          obtain ⟨f1, f2, f3, f4⟩ := HYg.out.cells
          dsimp only at e1 e2 f1 f2
          clear hR d1 d2 y1 y2 y3 y4 HL HY HZ HK
          go_wp2_with fail
          go_roundw
          case rel => exact ⟨k + 1, by omega, by go_num, by rw [HT.out]; exact HYg.out, HZg.out, HKg.out⟩
          case measure => simp [intOf] <;> omega
      · have hlat : (St.mk yn ys).later ⟨xn, xs⟩ = ⟨yn, ys⟩ := by unfold St.later; rw [if_neg (fun h => hg h.1)]
        have HG : Hid ((St.mk xn xs).good = false) := Bool.eq_false_iff.2 hg
        have HT := Lib.hid (HS.out.trans hlat)
        clear hg hlat
        go_wp2_with fail
        refine wp_region_later (by kernel_rfl) (by kernel_rfl) ?_
        repeat (refine wpQuiet_step (fun K hK => ?_); go_simp; first | (refine hK _ ?_; clear hK K) | (apply Exists.intro; refine ⟨fun _ => ?_, hK _ ?_⟩; (((go_at_call 23; exact Later.call (rgood_no _ _ HG.out _)))); clear hK K))
        refine wpQuiet_nil ?_
        intro _ hw'
        obtain ⟨g, hw''⟩ := hw'
        subst hw''
        have HKg := Lib.hid (HK.out.trans g.keep)
        have HYg := Lib.hid (HY.out.keep0 g.keep)
        have HZg := Lib.hid (HZ.out.keep0 g.keep)
        have HLg := Lib.hid (HL.out.keep0 g.keep)
        obtain ⟨e1, e2⟩ := HLg.out k _ HX.out
        obtain ⟨f1, f2, f3, f4⟩ := HYg.out.cells
        dsimp only at e1 e2 f1 f2
        clear hR d1 d2 y1 y2 y3 y4 HL HY HZ HK
        go_wp2_with fail
        go_roundw
        case rel => exact ⟨k + 1, by omega, by go_num, by rw [HT.out]; exact HYg.out, HZg.out, HKg.out⟩
        case measure => simp [intOf] <;> omega
    · obtain rfl : k = n := by omega
      have hall : l.take k = l := by rw [HN.out]; exact List.take_length
      rw [hall] at hst
      obtain ⟨y, hy⟩ : ∃ y, y = l.foldl St.later ⟨0, 0⟩ := ⟨_, rfl⟩
      rw [← hy] at hst
      obtain ⟨yn, ys⟩ := y
      have HYE := Lib.hid hy
      clear hy
      have HY := Lib.hid hst
      obtain ⟨y1, y2, y3, y4⟩ := hst.cells
      obtain ⟨v1, v2, v3, v4⟩ := HZ.out.cells
      dsimp only at y1 y2 v1 v2
      have hne : (r2 == r) = false := by have := HR.out; simp; omega
      clear hst hall HL
      go_wp2_with fail
      exact bodyPost_ret (v := .agg #[.int .i64 yn, .int .i64 ys]) (by simp [results, Try.results24, go_sem, *]) rfl
        ⟨by rw [← HYE.out]; rfl, (HK.out.setNew (by have := HR.out; dsimp only; omega) _).setNew (by have := HR.out; dsimp only; omega) _⟩
end Go.Proofs.Ytcadamdlfelocaa
