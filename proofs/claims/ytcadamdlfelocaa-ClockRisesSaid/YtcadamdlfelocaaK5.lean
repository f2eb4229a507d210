/- A clock is made; its readers; a clock that no call made. -/
import Derived.Test.YtcadamdlfelocaaK4
namespace Go.Proofs.Ytcadamdlfelocaa
open Go.RowKit
set_option maxHeartbeats 1000000 in
theorem cnew_ok (site n s : Int) (hs : site = 1 ∨ site = 2) (hg : (St.mk n s).good = true) (w : World) :
    Calls Try.prog 7 #[.int .i64 site, .agg #[.int .i64 n, .int .i64 s]] w fun e w' => ∃ b, w.heap.size ≤ b ∧ e = .returned (.tuple #[.pointer (some ⟨b, 0, none⟩), .int .i64 0]) ∧ IsCk w' b 56 ⟨site, ⟨n, s⟩, 0⟩ ∧ Keep (fun _ => False) w w' := by
  have HG := Lib.hid hg
  clear hg
  rcases hs with rfl | rfl
  all_goals
    go_enter Try.func7, Try.ntmps7
    go_wp2_with (go_at_call 19; refine (good_yes _ _ HG.out _).mono ?_; rintro e w1 ⟨rfl, hk⟩; have HK1 := hk; obtain ⟨hc, hf⟩ := hk.rules; have hz := hk.size; simp at hz; have hz1 : w.heap.size < w1.heap.size := (by omega); clear hk)
    go_ret2
    exact ⟨w1.heap.size, by omega, rfl, heap_alloc_new w1 _, ((Keep.alloc _ _ _).trans HK1).allocR _⟩
set_option maxHeartbeats 1000000 in
theorem cnew_bad (site n s : Int) (h : ¬ ((site = 1 ∨ site = 2) ∧ (St.mk n s).good = true)) (w : World) :
    Calls Try.prog 7 #[.int .i64 site, .agg #[.int .i64 n, .int .i64 s]] w fun e w' => e = .returned (.tuple #[.pointer none, .int .i64 2]) ∧ Keep (fun _ => False) w w' := by
  by_cases hs : site = 1 ∨ site = 2
  · have HG : Hid ((St.mk n s).good = false) := Bool.eq_false_iff.2 (fun h2 => h ⟨hs, h2⟩)
    clear h
    rcases hs with rfl | rfl
    all_goals
      go_enter Try.func7, Try.ntmps7
      go_wp2_with (go_at_call 19; refine (good_no _ _ HG.out _).mono ?_; rintro e w1 ⟨rfl, hk⟩; have HK1 := hk; obtain ⟨hc, hf⟩ := hk.rules; have hz := hk.size; simp at hz; have hz1 : w.heap.size < w1.heap.size := (by omega); clear hk)
      go_ret2
      exact ⟨rfl, (Keep.alloc _ _ _).trans HK1⟩
  · have hs1 : (site != 1) = true := by simp; intro h; exact hs (.inl h)
    have hs2 : (site != 2) = true := by simp; intro h; exact hs (.inr h)
    clear h hs
    go_enter Try.func7, Try.ntmps7
    go_wp2
    go_ret2
    exact ⟨rfl, Keep.alloc _ _ _⟩
set_option maxHeartbeats 1000000 in
theorem rcnew_ok (site n s : Int) (hs : site = 1 ∨ site = 2) (hg : (St.mk n s).good = true) (w : World) :
    Calls Try.prog 12 #[.int .i64 site, .agg #[.int .i64 n, .int .i64 s]] w fun e w' => ∃ b, w.heap.size ≤ b ∧ e = .returned (.tuple #[.pointer (some ⟨b, 0, none⟩), .int .i64 0]) ∧ IsCk w' b 46 ⟨site, ⟨n, s⟩, 0⟩ ∧ Keep (fun _ => False) w w' := by
  have HG := Lib.hid hg
  clear hg
  rcases hs with rfl | rfl
  all_goals
    go_enter Try.func12, Try.ntmps12
    go_wp2_with (go_at_call 23; refine (rgood_yes _ _ HG.out _).mono ?_; rintro e w1 ⟨rfl, hk⟩; have HK1 := hk; obtain ⟨hc, hf⟩ := hk.rules; have hz := hk.size; simp at hz; have hz1 : w.heap.size < w1.heap.size := (by omega); clear hk)
    go_ret2
    exact ⟨w1.heap.size, by omega, rfl, heap_alloc_new w1 _, ((Keep.alloc _ _ _).trans HK1).allocR _⟩
set_option maxHeartbeats 1000000 in
theorem rcnew_bad (site n s : Int) (h : ¬ ((site = 1 ∨ site = 2) ∧ (St.mk n s).good = true)) (w : World) :
    Calls Try.prog 12 #[.int .i64 site, .agg #[.int .i64 n, .int .i64 s]] w fun e w' => e = .returned (.tuple #[.pointer none, .int .i64 2]) ∧ Keep (fun _ => False) w w' := by
  by_cases hs : site = 1 ∨ site = 2
  · have HG : Hid ((St.mk n s).good = false) := Bool.eq_false_iff.2 (fun h2 => h ⟨hs, h2⟩)
    clear h
    rcases hs with rfl | rfl
    all_goals
      go_enter Try.func12, Try.ntmps12
      go_wp2_with (go_at_call 23; refine (rgood_no _ _ HG.out _).mono ?_; rintro e w1 ⟨rfl, hk⟩; have HK1 := hk; obtain ⟨hc, hf⟩ := hk.rules; have hz := hk.size; simp at hz; have hz1 : w.heap.size < w1.heap.size := (by omega); clear hk)
      go_ret2
      exact ⟨rfl, (Keep.alloc _ _ _).trans HK1⟩
  · have hs1 : (site != 1) = true := by simp; intro h; exact hs (.inl h)
    have hs2 : (site != 2) = true := by simp; intro h; exact hs (.inr h)
    clear h hs
    go_enter Try.func12, Try.ntmps12
    go_wp2
    go_ret2
    exact ⟨rfl, Keep.alloc _ _ _⟩
set_option maxHeartbeats 400000 in
theorem last_ok (w : World) (b : Nat) (c : Ck) (hc : c.Ok) (h : IsCk w b 56 c) :
    Calls Try.prog 17 #[.pointer (some ⟨b, 0, none⟩)] w fun e w' => e = .returned (.agg #[.int .i64 c.last.n, .int .i64 c.last.s]) ∧ Keep (fun _ => False) w w' := by
  have HC := Lib.hid hc
  have HI := Lib.hid h
  have hb := h.lt
  obtain ⟨c0, c1, c2, c3⟩ := h.cells
  clear hc h
  go_enter Try.func17, Try.ntmps17
  go_wp2_with (go_at_call 20; refine (cnone_any _ b c HC.out 56 (HI.out.keep0 (Keep.alloc _ _ _))).mono ?_; rintro e w' ⟨rfl, rfl⟩)
  exact bodyPost_ret (v := .agg #[.int .i64 c.last.n, .int .i64 c.last.s]) (by simp [results, Try.results17, go_sem, *]) rfl
    ⟨rfl, by repeat (first | exact Keep.refl _ _ | assumption | refine Keep.trans ?_ (by assumption) | refine Keep.allocR ?_ _ | refine Keep.drewNR ?_ _ | refine Keep.setNew ?_ (by simp) _)⟩
set_option maxHeartbeats 400000 in
theorem told_ok (w : World) (b : Nat) (c : Ck) (hc : c.Ok) (h : IsCk w b 56 c) :
    Calls Try.prog 18 #[.pointer (some ⟨b, 0, none⟩)] w fun e w' => e = .returned (.int .i64 c.told) ∧ w = w' := by
  have HC := Lib.hid hc
  have HI := Lib.hid h
  have h0 := hc.t0
  have h1 := hc.t1
  obtain ⟨c0, c1, c2, c3⟩ := h.cells
  clear hc h
  go_enter Try.func18, Try.ntmps18
  go_wp2_with (first
    | (go_at_call 20; refine (cnone_any _ b c HC.out 56 HI.out).mono ?_; rintro e w' ⟨rfl, rfl⟩)
    | (go_at_call 27; refine (load_any _ b 3 c.told c3).mono ?_; rintro e w' ⟨rfl, rfl⟩))
  go_ret
  exact ⟨rfl, rfl⟩
theorem meet_bad (w : World) (b : Nat) (c : Ck) (hc : c.Ok) (h : IsCk w b 56 c) (x y : Int) (hg : (St.mk x y).good = false) :
    Calls Try.prog 9 #[.pointer (some ⟨b, 0, none⟩), .agg #[.int .i64 x, .int .i64 y]] w fun e w' => e = .returned (.int .i64 2) ∧ Keep (fun _ => False) w w' := by
  have HC := Lib.hid hc
  have HI := Lib.hid h
  have HG := Lib.hid hg
  clear hc h hg
  go_enter Try.func9, Try.ntmps9
  go_wp2_with (first
    | (go_at_call 20; refine (cnone_any _ b c HC.out 56 (HI.out.keep0 (Keep.alloc _ _ _))).mono ?_; rintro e w' ⟨rfl, rfl⟩)
    | (go_at_call 19; refine (good_no _ _ HG.out _).mono ?_; rintro e w1 ⟨rfl, hk⟩; have HK1 := hk; clear hk))
  go_ret
  exact ⟨rfl, (Keep.alloc _ _ _).trans HK1⟩
theorem rmeet_bad (w : World) (b : Nat) (x y : Int) (hg : (St.mk x y).good = false) :
    Calls Try.prog 14 #[.pointer (some ⟨b, 0, none⟩), .agg #[.int .i64 x, .int .i64 y]] w fun e w' => e = .returned (.int .i64 2) ∧ Keep (fun _ => False) w w' := by
  have HG := Lib.hid hg
  clear hg
  go_enter Try.func14, Try.ntmps14
  go_wp2_with (go_at_call 23; refine (rgood_no _ _ HG.out _).mono ?_; rintro e w1 ⟨rfl, hk⟩; have HK1 := hk; clear hk)
  go_ret
  exact ⟨rfl, (Keep.alloc _ _ _).trans HK1⟩
/-- A clock that no call made: nil, or all zero. -/
def NoCk (w : World) (p : Option Addr) : Prop := p = none ∨ ∃ b, p = some ⟨b, 0, none⟩ ∧ w.heap[b]? = some (.cells #[.int .i64 0, .int .i64 0, .int .i64 0, .int .i64 0] 56 (0, 0))
theorem NoCk.keep0 {w w' : World} {p : Option Addr} (h : NoCk w p) (k : Keep (fun _ => False) w w') : NoCk w' p := by
  rcases h with rfl | ⟨b, rfl, h⟩
  · exact .inl rfl
  · exact .inr ⟨b, rfl, k.heap h (fun h => h)⟩
theorem nock_none (w : World) (p : Option Addr) (h : NoCk w p) : Calls Try.prog 20 #[.pointer p] w fun e w' => e = .returned (.bool true) ∧ w = w' := by
  rcases h with rfl | ⟨b, rfl, h⟩
  · exact cnone_nil w
  · exact cnone_zero w b _ _ _ 56 h
set_option maxHeartbeats 400000 in
theorem nock_peek (w : World) (p : Option Addr) (h : NoCk w p) (now : Int) : Calls Try.prog 15 #[.pointer p, .int .i64 now] w fun e w' => e = .returned (.tuple #[.agg #[.int .i64 0, .int .i64 0], .int .i64 1]) ∧ Keep (fun _ => False) w w' := by
  have H := Lib.hid h
  clear h
  go_enter Try.func15, Try.ntmps15
  go_wp2_with (go_at_call 20; refine (nock_none _ p (H.out.keep0 (Keep.alloc _ _ _))).mono ?_; rintro e w' ⟨rfl, rfl⟩)
  exact bodyPost_ret (v := .tuple #[.agg #[.int .i64 0, .int .i64 0], .int .i64 1]) (by simp [results, Try.results15, go_sem]) rfl ⟨rfl, by repeat (first | exact Keep.refl _ _ | assumption | refine Keep.trans ?_ (by assumption) | refine Keep.allocR ?_ _ | refine Keep.drewNR ?_ _ | refine Keep.setNew ?_ (by simp) _)⟩
set_option maxHeartbeats 400000 in
theorem nock_tick (w : World) (p : Option Addr) (h : NoCk w p) (now : Int) : Calls Try.prog 11 #[.pointer p, .int .i64 now] w fun e w' => e = .returned (.tuple #[.agg #[.int .i64 0, .int .i64 0], .int .i64 1]) ∧ Keep (fun _ => False) w w' := by
  have H := Lib.hid h
  clear h
  go_enter Try.func11, Try.ntmps11
  go_wp2_with (go_at_call 15; refine (nock_peek _ p (H.out.keep0 (Keep.alloc _ _ _)) now).mono ?_; rintro e w1 ⟨rfl, hk⟩; have HK1 := hk; obtain ⟨hc, hf⟩ := hk.rules; have hz := hk.size; simp at hz; have hz1 : w.heap.size < w1.heap.size := (by omega); clear hk)
  exact bodyPost_ret (v := .tuple #[.agg #[.int .i64 0, .int .i64 0], .int .i64 1]) (by simp [results, Try.results11, go_sem, *]) rfl ⟨rfl, by repeat (first | exact Keep.refl _ _ | assumption | refine Keep.trans ?_ (by assumption) | refine Keep.allocR ?_ _ | refine Keep.drewNR ?_ _ | refine Keep.setNew ?_ (by simp) _)⟩
set_option maxHeartbeats 400000 in
theorem nock_meet (w : World) (p : Option Addr) (h : NoCk w p) (x y : Int) : Calls Try.prog 9 #[.pointer p, .agg #[.int .i64 x, .int .i64 y]] w fun e w' => e = .returned (.int .i64 1) ∧ Keep (fun _ => False) w w' := by
  have H := Lib.hid h
  clear h
  go_enter Try.func9, Try.ntmps9
  go_wp2_with (go_at_call 20; refine (nock_none _ p (H.out.keep0 (Keep.alloc _ _ _))).mono ?_; rintro e w' ⟨rfl, rfl⟩)
  go_ret
  exact ⟨rfl, Keep.alloc _ _ _⟩
set_option maxHeartbeats 400000 in
theorem nock_last (w : World) (p : Option Addr) (h : NoCk w p) : Calls Try.prog 17 #[.pointer p] w fun e w' => e = .returned (.agg #[.int .i64 0, .int .i64 0]) ∧ Keep (fun _ => False) w w' := by
  have H := Lib.hid h
  clear h
  go_enter Try.func17, Try.ntmps17
  go_wp2_with (go_at_call 20; refine (nock_none _ p (H.out.keep0 (Keep.alloc _ _ _))).mono ?_; rintro e w' ⟨rfl, rfl⟩)
  exact bodyPost_ret (v := .agg #[.int .i64 0, .int .i64 0]) (by simp [results, Try.results17, go_sem]) rfl ⟨rfl, by repeat (first | exact Keep.refl _ _ | assumption | refine Keep.trans ?_ (by assumption) | refine Keep.allocR ?_ _ | refine Keep.drewNR ?_ _ | refine Keep.setNew ?_ (by simp) _)⟩
set_option maxHeartbeats 400000 in
theorem nock_told (w : World) (p : Option Addr) (h : NoCk w p) : Calls Try.prog 18 #[.pointer p] w fun e w' => e = .returned (.int .i64 0) ∧ w = w' := by
  have H := Lib.hid h
  clear h
  go_enter Try.func18, Try.ntmps18
  go_wp2_with (go_at_call 20; refine (nock_none _ p H.out).mono ?_; rintro e w' ⟨rfl, rfl⟩)
  go_ret
  exact ⟨rfl, rfl⟩
end Go.Proofs.Ytcadamdlfelocaa
