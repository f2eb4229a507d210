/- The join of vectors by the document, walked. -/
import Derived.Test.YtfoklfifgmacfaaS6
namespace Go.Proofs.Ytfoklfifgmacfaa
open Go.RowKit
theorem vmax_nonneg (l : List (Int × Int)) : 0 ≤ (vmax l).1 ∧ 0 ≤ (vmax l).2 := by
  have : ∀ (l : List (Int × Int)) (a : Int × Int), 0 ≤ a.1 → 0 ≤ a.2 → 0 ≤ (l.foldl (fun a b => (max a.1 b.1, max a.2 b.2)) a).1 ∧ 0 ≤ (l.foldl (fun a b => (max a.1 b.1, max a.2 b.2)) a).2 := by
    intro l
    induction l with
    | nil => intro a h0 h1; exact ⟨h0, h1⟩
    | cons x l ih => intro a h0 h1; exact ih _ (by dsimp only; omega) (by dsimp only; omega)
  exact this l (0, 0) (Int.le_refl _) (Int.le_refl _)
set_option maxHeartbeats 1000000 in
theorem rvjoin_any (l : List (Int × Int)) (a : Option Addr) (cap : Nat) (w : World) (hl : l.length ≤ 1000) (hc : Vs w a l) :
    Calls Try.prog 40 #[.slice a l.length cap] w fun e w' => e = .returned (.agg #[.int .i64 (vmax l).1, .int .i64 (vmax l).2]) ∧ Keep (fun _ => False) w w' := by
  obtain ⟨n, hn⟩ : ∃ n, n = l.length := ⟨_, rfl⟩
  rw [← hn] at hl
  rw [← hn]
  have HN := Lib.hid hn
  have HC := Lib.hid hc
  clear hn hc
  go_enter Try.func40, Try.ntmps40
  go_wp2_with fail
  obtain ⟨r2, hr2⟩ : ∃ r, r = w.heap.size := ⟨_, rfl⟩
  rw [← hr2]
  generalize hwb : w.alloc (Obj.cells #[Value.int IntKind.i64 0, Value.int IntKind.i64 0] 25) = wb
  obtain ⟨r, hr⟩ : ∃ r, r = r2 + 1 := ⟨_, rfl⟩
  rw [← hr]
  generalize hwa : wb.alloc (Obj.cells #[Value.int IntKind.i64 0, Value.int IntKind.i64 0] 25) = wa
  have hrb : r = wb.heap.size := by rw [hr, hr2, ← hwb]; simp
  have G0 : Hid (IsV wb r2 0 0) := by rw [← hwb, hr2]; exact heap_alloc_new w _
  have G1 : Hid (IsV wa r2 0 0) := by rw [← hwa]; exact G0.out.keep0 (Keep.alloc _ _ _)
  have H0 : Hid (IsV wa r 0 0) := by rw [← hwa, hrb]; exact heap_alloc_new wb _
  have K0 : Hid (Keep (fun _ => False) w wa) := by rw [← hwa, ← hwb]; exact (Keep.alloc _ _ _).allocR _
  have HR : Hid (r2 = w.heap.size ∧ r = w.heap.size + 1) := ⟨hr2, by rw [hr, hr2]⟩
  clear hr hr2 hrb hwa hwb G0
  go_loopw [4] (fun i wr => ∃ k : Nat, k ≤ n ∧ i = .int .i64 k ∧ IsV wr r (vmax (l.take k)).1 (vmax (l.take k)).2 ∧ IsV wr r2 0 0 ∧ Keep (fun _ => False) w wr) (fun i _ => n - (intOf i).toNat)
  case atStart => exact ⟨0, by omega, rfl, H0.out, G1.out, K0.out⟩
  case round =>
    obtain ⟨k, hk, rfl, hst, hst2, hkp⟩ := hrel
    have HZ := Lib.hid hst2
    have HK := Lib.hid hkp
    have HL := Lib.hid (HC.out.keep0 hkp)
    clear hkp H0 K0 hst2 G1
    by_cases hlt : k < n
    · obtain ⟨x, hx⟩ : ∃ x, l[k]? = some x := ⟨_, List.getElem?_eq_getElem (by rw [← HN.out]; exact hlt)⟩
      obtain ⟨b, o, rfl, d1, d2⟩ := HL.out k x hx
      have hs := vmax_step l k x hx
      have HX := Lib.hid hx
      generalize vmax (l.take k) = y at *
      obtain ⟨yn, ys⟩ := y
      obtain ⟨xn, xs⟩ := x
      have HS := Lib.hid hs
      have HY := Lib.hid hst
      have hp : (0 : Int) ≤ k := by omega
      have hlt' : (k : Int) < n := by omega
      obtain ⟨y1, y2, y3, y4⟩ := hst.cells
      clear hx hs hst
      dsimp only at d1 d2 y1 y2
      obtain ⟨m1, hm1⟩ : ∃ z, (if yn < xn then xn else yn) = z := ⟨_, rfl⟩
      obtain ⟨m2, hm2⟩ : ∃ z, (if ys < xs then xs else ys) = z := ⟨_, rfl⟩
      have HS' : Hid (vmax (l.take (k + 1)) = (m1, m2)) := by
        rw [Hid, HS.out, ← hm1, ← hm2]
        dsimp only
        refine Prod.ext ?_ ?_ <;> dsimp only <;> split <;> omega
      have hbl := World.block_lt_of_cell? _ _ d1
      have hrl := World.block_lt_of_cell? _ _ y1
      dsimp only at hbl hrl
      have hRl := (Later.rules wr).1
      go_upto_region 5 with fail
      refine wp_region_later_tail 9 (by kernel_rfl) (by kernel_rfl) ?_
      simp only [List.take_succ_cons, List.take_zero, List.drop_succ_cons, List.drop_zero]
      repeat (refine wpQuiet_step (fun K hK => ?_); go_simp; first | (refine hK _ ?_; clear hK K) | (apply Exists.intro; refine ⟨fun _ => ?_, hK _ ?_⟩; (fail); clear hK K))
      refine wpQuiet_nil ?_
      intro _ hw'
      obtain ⟨g, hw''⟩ := hw'
      subst hw''
      obtain ⟨wg, hwg⟩ : ∃ wg, wg = g.world := ⟨_, rfl⟩
      have hkg := g.keep
      rw [← hwg] at hkg ⊢
      have HKg := Lib.hid (HK.out.trans hkg)
      have HLg := Lib.hid (HL.out.keep0 hkg)
      have HYg := Lib.hid (HY.out.keep0 hkg)
      have HZg := Lib.hid (HZ.out.keep0 hkg)
      clear hRl d1 d2 y1 y2 y3 y4 hbl hrl hwg hkg
      obtain ⟨y1, y2, y3, y4⟩ := HYg.out.cells
      go_upto_region 6 with fail
      clear y1 y2 y3 y4
      generalize hwt : World.setCell _ _ _ = wt
      have HKt : Hid (Keep (fun _ => False) w wt) := by rw [← hwt]; exact HKg.out.setNew (by have := HR.out; dsimp only; omega) _
      have HYt : Hid (IsV wt r m1 ys) := by rw [← hwt]; exact HYg.out.set0 m1
      have HZt : Hid (IsV wt r2 0 0) := by rw [← hwt]; exact HZg.out.keep (Keep.setCell (S := fun i => i = r) _ _ rfl) (by have := HR.out; omega)
      have HLt : Hid (Vs wt (some ⟨b, o, none⟩) l) := HC.out.keep0 HKt.out
      clear hwt HLg HYg HZg HKg
      obtain ⟨y1, y2, y3, y4⟩ := HYt.out.cells
      obtain ⟨b', o', hbo, d1, d2⟩ := HLt.out k (xn, xs) HX.out
      simp only [Option.some.injEq, Addr.mk.injEq, and_true] at hbo
      obtain ⟨rfl, rfl⟩ := hbo
      have hbl := World.block_lt_of_cell? _ _ d1
      have hrl := World.block_lt_of_cell? _ _ y1
      dsimp only at d1 d2 hbl hrl
      have hRl := (Later.rules wt).1
      refine wp_region_later_tail 9 (by kernel_rfl) (by kernel_rfl) ?_
      simp only [List.take_succ_cons, List.take_zero, List.drop_succ_cons, List.drop_zero]
      repeat (refine wpQuiet_step (fun K hK => ?_); go_simp; first | (refine hK _ ?_; clear hK K) | (apply Exists.intro; refine ⟨fun _ => ?_, hK _ ?_⟩; (fail); clear hK K))
      refine wpQuiet_nil ?_
      intro _ hw'
      obtain ⟨h, hw''⟩ := hw'
      subst hw''
      obtain ⟨wh, hwh⟩ : ∃ wh, wh = h.world := ⟨_, rfl⟩
      have hkh := h.keep
      rw [← hwh] at hkh ⊢
      have HKh := Lib.hid (HKt.out.trans hkh)
      have HYh := Lib.hid (HYt.out.keep0 hkh)
      have HZh := Lib.hid (HZt.out.keep0 hkh)
      clear hRl d1 d2 y1 y2 y3 y4 hbl hrl hwh hkh
      obtain ⟨y1, y2, y3, y4⟩ := HYh.out.cells
      go_wp2_with fail
      go_roundw
      case rel => exact ⟨k + 1, by omega, by go_num, by rw [HS'.out]; exact HYh.out.set1 m2, HZh.out.keep (Keep.setCell (S := fun i => i = r) _ _ rfl) (by have := HR.out; omega), HKh.out.setNew (by have := HR.out; dsimp only; omega) _⟩
      case measure => simp [intOf] <;> omega
    · obtain rfl : k = n := by omega
      have hall : l.take k = l := by rw [HN.out]; exact List.take_length
      rw [hall] at hst
      obtain ⟨y, hy⟩ : ∃ y, y = vmax l := ⟨_, rfl⟩
      rw [← hy] at hst
      obtain ⟨yn, ys⟩ := y
      have HYE := Lib.hid hy
      clear hy
      have HY := Lib.hid hst
      obtain ⟨y1, y2, y3, y4⟩ := hst.cells
      dsimp only at y1 y2
      clear hst hall HL
      obtain ⟨z1, z2, z3, z4⟩ := HZ.out.cells
      go_wp2_with fail
      exact bodyPost_ret (v := .agg #[.int .i64 yn, .int .i64 ys]) (by simp [results, Try.results40, go_sem, *]) rfl
        ⟨by rw [← HYE.out], (HK.out.setNew (by have := HR.out; dsimp only; omega) _).setNew (by have := HR.out; dsimp only; omega) _⟩
end Go.Proofs.Ytfoklfifgmacfaa
