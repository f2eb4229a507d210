/- A clock's Tick, walked, of both texts. -/
import Derived.Test.YtcadamdlfelocaaK3
namespace Go.Proofs.Ytcadamdlfelocaa
open Go.RowKit
set_option maxHeartbeats 1000000 in
theorem tick_ok (w : World) (b : Nat) (c : Ck) (hc : c.Ok) (h : IsCk w b 56 c) (now x y f : Int) (hx : c.last.next now c.site = (⟨x, y⟩, f)) :
    Calls Try.prog 11 #[.pointer (some ⟨b, 0, none⟩), .int .i64 now] w fun e w' => e = .returned (.tuple #[.agg #[.int .i64 x, .int .i64 y], .int .i64 f]) ∧ IsCk w' b 56 (c.tick now) ∧ Keep (· = b) w w' := by
  obtain ⟨site, ⟨n, s⟩, told⟩ := c
  have h0 := hc.t0
  have h1 := hc.t1
  have HC := Lib.hid hc
  have HI := Lib.hid h
  have HX := Lib.hid hx
  dsimp only at h0 h1
  clear hc h hx
  go_enter Try.func11, Try.ntmps11
  go_wp2_with fail
  obtain ⟨r, hr⟩ : ∃ r, r = w.heap.size := ⟨_, rfl⟩
  rw [← hr]
  generalize hwa : w.alloc (Obj.cells #[Value.int IntKind.i64 0, Value.int IntKind.i64 0] 29) = wa
  have H0 : Hid (IsSt wa r ⟨0, 0⟩) := by rw [← hwa, hr]; exact heap_alloc_new w _
  have K0 : Hid (Keep (fun _ => False) w wa) := by rw [← hwa]; exact Keep.alloc _ _ _
  have HR := Lib.hid hr
  have HI1 := Lib.hid (HI.out.keep0 K0.out)
  clear hr hwa
  refine (peek_ok _ b ⟨site, ⟨n, s⟩, told⟩ HC.out HI1.out now x y f HX.out).mono ?_
  rintro e w1 ⟨rfl, hk⟩
  have H1 := Lib.hid (H0.out.keep0 hk)
  have K1 := Lib.hid (K0.out.trans hk)
  have HI2 := Lib.hid (HI1.out.keep0 hk)
  clear hk
  go_upto_region 2 with fail
  generalize hwx : w1.alloc (Obj.cells #[Value.int IntKind.i64 x, Value.int IntKind.i64 y] 29) = wx
  obtain ⟨q, hq⟩ : ∃ q, q = w1.heap.size := ⟨_, rfl⟩
  rw [← hq]
  have kx : Keep (fun _ => False) w1 wx := by rw [← hwx]; exact Keep.alloc _ _ _
  have HQ : Hid (IsSt wx q ⟨x, y⟩) := by rw [← hwx, hq]; exact heap_alloc_new w1 _
  have HI3 := Lib.hid (HI2.out.keep0 kx)
  have H2 := Lib.hid (H1.out.keep0 kx)
  have K2 := Lib.hid (K1.out.trans kx)
  have hne : Hid (b < r ∧ r < q) := ⟨by rw [HR.out]; exact HI.out.lt, by rw [hq]; exact H1.out.lt⟩
  clear hwx hq kx HI2 H1 K1 HI1 K0 H0
  obtain ⟨q1, q2, _, _⟩ := HQ.out.cells
  obtain ⟨c0, c1, c2, c3⟩ := HI3.out.cells
  have f1 := HI3.out.free 1
  have f2 := HI3.out.free 2
  have f3 := HI3.out.free 3
  obtain ⟨r1, r2, r3, r4⟩ := H2.out.cells
  dsimp only at q1 q2 c0 c1 c2 c3 r1 r2
  have e1 : ¬ q = b := by have := hne.out; omega
  have e2 : ¬ r = b := by have := hne.out; omega
  have e3 : ¬ b = r := by have := hne.out; omega
  have e4 : ¬ b = q := by have := hne.out; omega
  by_cases hf : f = 0
  · subst hf
    have HT : Hid (Ck.tick ⟨site, ⟨n, s⟩, told⟩ now = ⟨site, ⟨x, y⟩, told + 1⟩) := by
      have h := HX.out; unfold Ck.tick; dsimp only; rw [h, if_pos rfl]; rfl
    go_wp2_with (go_at_call 22; refine (add_any _ b 3 told h0 (by omega) (HI3.out.setLast x y).cells.2.2.2 ((HI3.out.setLast x y).free 3)).mono ?_; rintro e w4 ⟨rfl, rfl⟩)
    exact bodyPost_ret (v := .tuple #[.agg #[.int .i64 x, .int .i64 y], .int .i64 0]) (by simp [results, Try.results11, go_sem, *]) rfl
      ⟨rfl, by rw [HT.out]; exact ((((HI3.out.setLast x y).setTold (told + 1)).keep (Keep.setCell (S := (· = r)) _ _ rfl) (by have := hne.out; omega)).keep (Keep.setCell (S := (· = r)) _ _ rfl) (by have := hne.out; omega)),
        (((((K2.out.mono (fun _ h => h.elim)).setR _ (by rfl)).setR _ (by rfl)).setR _ (by rfl)).step (Keep.setCell (S := (· = r)) _ _ rfl) (fun i hi => .inr (by have := HR.out; omega))).step (Keep.setCell (S := (· = r)) _ _ rfl) (fun i hi => .inr (by have := HR.out; omega))⟩
  · have hf1 : (f == 0) = false := by simpa using hf
    have HT : Hid (Ck.tick ⟨site, ⟨n, s⟩, told⟩ now = ⟨site, ⟨n, s⟩, told⟩) := by
      have h := HX.out; unfold Ck.tick; dsimp only; rw [h, if_neg hf]; rfl
    clear hf
    go_wp2_with fail
    exact bodyPost_ret (v := .tuple #[.agg #[.int .i64 x, .int .i64 y], .int .i64 f]) (by simp [results, Try.results11, go_sem, *]) rfl
      ⟨rfl, by rw [HT.out]; exact ((HI3.out.keep (Keep.setCell (S := (· = r)) _ _ rfl) (by have := hne.out; omega)).keep (Keep.setCell (S := (· = r)) _ _ rfl) (by have := hne.out; omega)),
        ((K2.out.mono (fun _ h => h.elim)).step (Keep.setCell (S := (· = r)) _ _ rfl) (fun i hi => .inr (by have := HR.out; omega))).step (Keep.setCell (S := (· = r)) _ _ rfl) (fun i hi => .inr (by have := HR.out; omega))⟩
set_option maxHeartbeats 1000000 in
theorem rtick_ok (w : World) (b : Nat) (c : Ck) (hc : c.Ok) (h : IsCk w b 46 c) (now x y f : Int) (hx : c.last.next now c.site = (⟨x, y⟩, f)) :
    Calls Try.prog 13 #[.pointer (some ⟨b, 0, none⟩), .int .i64 now] w fun e w' => e = .returned (.tuple #[.agg #[.int .i64 x, .int .i64 y], .int .i64 f]) ∧ IsCk w' b 46 (c.tick now) ∧ Keep (· = b) w w' := by
  obtain ⟨site, ⟨n, s⟩, told⟩ := c
  have h0 := hc.t0
  have h1 := hc.t1
  have HI := Lib.hid h
  have HX := Lib.hid hx
  dsimp only at h0 h1
  clear hc h hx
  go_enter Try.func13, Try.ntmps13
  go_wp2_with fail
  obtain ⟨r, hr⟩ : ∃ r, r = w.heap.size := ⟨_, rfl⟩
  rw [← hr]
  generalize hwa : w.alloc (Obj.cells #[Value.int IntKind.i64 0, Value.int IntKind.i64 0] 29) = wa
  have H0 : Hid (IsSt wa r ⟨0, 0⟩) := by rw [← hwa, hr]; exact heap_alloc_new w _
  have K0 : Hid (Keep (fun _ => False) w wa) := by rw [← hwa]; exact Keep.alloc _ _ _
  have HR := Lib.hid hr
  have HI1 := Lib.hid (HI.out.keep0 K0.out)
  clear hr hwa
  refine (rpeek_ok _ b ⟨site, ⟨n, s⟩, told⟩ HI1.out now x y f HX.out).mono ?_
  rintro e w1 ⟨rfl, hk⟩
  have H1 := Lib.hid (H0.out.keep0 hk)
  have K1 := Lib.hid (K0.out.trans hk)
  have HI2 := Lib.hid (HI1.out.keep0 hk)
  clear hk
  go_upto_region 2 with fail
  generalize hwx : w1.alloc (Obj.cells #[Value.int IntKind.i64 x, Value.int IntKind.i64 y] 29) = wx
  obtain ⟨q, hq⟩ : ∃ q, q = w1.heap.size := ⟨_, rfl⟩
  rw [← hq]
  have kx : Keep (fun _ => False) w1 wx := by rw [← hwx]; exact Keep.alloc _ _ _
  have HQ : Hid (IsSt wx q ⟨x, y⟩) := by rw [← hwx, hq]; exact heap_alloc_new w1 _
  have HI3 := Lib.hid (HI2.out.keep0 kx)
  have H2 := Lib.hid (H1.out.keep0 kx)
  have K2 := Lib.hid (K1.out.trans kx)
  have hne : Hid (b < r ∧ r < q) := ⟨by rw [HR.out]; exact HI.out.lt, by rw [hq]; exact H1.out.lt⟩
  clear hwx hq kx HI2 H1 K1 HI1 K0 H0
  obtain ⟨q1, q2, _, _⟩ := HQ.out.cells
  obtain ⟨c0, c1, c2, c3⟩ := HI3.out.cells
  have f1 := HI3.out.free 1
  have f2 := HI3.out.free 2
  have f3 := HI3.out.free 3
  obtain ⟨r1, r2, r3, r4⟩ := H2.out.cells
  dsimp only at q1 q2 c0 c1 c2 c3 r1 r2
  have e1 : ¬ q = b := by have := hne.out; omega
  have e2 : ¬ r = b := by have := hne.out; omega
  have e3 : ¬ b = r := by have := hne.out; omega
  have e4 : ¬ b = q := by have := hne.out; omega
  by_cases hf : f = 0
  · subst hf
    have HT : Hid (Ck.tick ⟨site, ⟨n, s⟩, told⟩ now = ⟨site, ⟨x, y⟩, told + 1⟩) := by
      have h := HX.out; unfold Ck.tick; dsimp only; rw [h, if_pos rfl]; rfl
    go_wp2_with fail
    exact bodyPost_ret (v := .tuple #[.agg #[.int .i64 x, .int .i64 y], .int .i64 0]) (by simp [results, Try.results13, go_sem, *]) rfl
      ⟨rfl, by rw [HT.out]; exact ((((HI3.out.setLast x y).setTold (told + 1)).keep (Keep.setCell (S := (· = r)) _ _ rfl) (by have := hne.out; omega)).keep (Keep.setCell (S := (· = r)) _ _ rfl) (by have := hne.out; omega)),
        (((((K2.out.mono (fun _ h => h.elim)).setR _ (by rfl)).setR _ (by rfl)).setR _ (by rfl)).step (Keep.setCell (S := (· = r)) _ _ rfl) (fun i hi => .inr (by have := HR.out; omega))).step (Keep.setCell (S := (· = r)) _ _ rfl) (fun i hi => .inr (by have := HR.out; omega))⟩
  · have hf1 : (f == 0) = false := by simpa using hf
    have HT : Hid (Ck.tick ⟨site, ⟨n, s⟩, told⟩ now = ⟨site, ⟨n, s⟩, told⟩) := by
      have h := HX.out; unfold Ck.tick; dsimp only; rw [h, if_neg hf]; rfl
    clear hf
    go_wp2_with fail
    exact bodyPost_ret (v := .tuple #[.agg #[.int .i64 x, .int .i64 y], .int .i64 f]) (by simp [results, Try.results13, go_sem, *]) rfl
      ⟨rfl, by rw [HT.out]; exact ((HI3.out.keep (Keep.setCell (S := (· = r)) _ _ rfl) (by have := hne.out; omega)).keep (Keep.setCell (S := (· = r)) _ _ rfl) (by have := hne.out; omega)),
        ((K2.out.mono (fun _ h => h.elim)).step (Keep.setCell (S := (· = r)) _ _ rfl) (fun i hi => .inr (by have := HR.out; omega))).step (Keep.setCell (S := (· = r)) _ _ rfl) (fun i hi => .inr (by have := HR.out; omega))⟩
end Go.Proofs.Ytcadamdlfelocaa
