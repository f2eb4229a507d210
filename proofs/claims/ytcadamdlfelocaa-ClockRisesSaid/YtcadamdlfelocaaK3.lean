/- A clock's methods that write, walked; the readers. -/
import Derived.Test.YtcadamdlfelocaaK2
namespace Go.Proofs.Ytcadamdlfelocaa
open Go.RowKit
theorem Keep.setR {S : Nat → Prop} {w0 w : World} (h : Keep S w0 w) {p : Addr} (u : Value) (hp : S p.block) : Keep S w0 (w.setCell p u) := h.trans (Keep.setCell w u hp)
theorem later_two {a b : St} (h : a.good = true) : [a, b].foldl St.later ⟨0, 0⟩ = a.later b := by
  have h1 : (St.mk 0 0).later a = a := by
    unfold St.later
    simp only [St.good, decide_eq_true_eq] at h
    split
    · rfl
    · rename_i h2
      obtain ⟨n, s⟩ := a
      simp only [St.good, St.less, decide_eq_true_eq] at h2 h
      have : n = 0 ∧ s = 0 := by omega
      rw [this.1, this.2]
  simp [h1]
theorem later_two_at (b : Nat) (n s x y p q : Int) (hg : (St.mk n s).good = true) (hq : (St.mk n s).later ⟨x, y⟩ = ⟨p, q⟩) (w : World) (h : w.heap[b]? = some (.cells #[.int .i64 n, .int .i64 s, .int .i64 x, .int .i64 y] 29 (0, 0))) :
    Sts w b 0 [⟨n, s⟩, ⟨x, y⟩] ∧ [St.mk n s, ⟨x, y⟩].foldl St.later ⟨0, 0⟩ = ⟨p, q⟩ := by
  refine ⟨fun i z hz => ?_, by rw [later_two hg, hq]⟩
  match i, hz with
  | 0, hz => simp at hz; subst hz; exact ⟨cell_of h 0, cell_of h 1⟩
  | 1, hz => simp at hz; subst hz; exact ⟨cell_of h 2, cell_of h 3⟩
theorem lcall (b : Nat) (n s x y p q : Int) (hg : (St.mk n s).good = true) (hq : (St.mk n s).later ⟨x, y⟩ = ⟨p, q⟩) (w : World) (h : w.heap[b]? = some (.cells #[.int .i64 n, .int .i64 s, .int .i64 x, .int .i64 y] 29 (0, 0))) :
    Calls Try.prog 21 #[.slice (some ⟨b, 0, none⟩) 2 2] w fun e w' => e = .returned (.agg #[.int .i64 p, .int .i64 q]) ∧ Keep (fun _ => False) w w' :=
  have H := later_two_at b n s x y p q hg hq w h
  (later_any [⟨n, s⟩, ⟨x, y⟩] b 0 2 w (by simp) H.1).mono fun _ _ ⟨h1, h2⟩ => ⟨by rw [h1, H.2]; rfl, h2⟩
theorem rlcall (b : Nat) (n s x y p q : Int) (hg : (St.mk n s).good = true) (hq : (St.mk n s).later ⟨x, y⟩ = ⟨p, q⟩) (w : World) (h : w.heap[b]? = some (.cells #[.int .i64 n, .int .i64 s, .int .i64 x, .int .i64 y] 29 (0, 0))) :
    Calls Try.prog 24 #[.slice (some ⟨b, 0, none⟩) 2 2] w fun e w' => e = .returned (.agg #[.int .i64 p, .int .i64 q]) ∧ Keep (fun _ => False) w w' :=
  have H := later_two_at b n s x y p q hg hq w h
  (rlater_any [⟨n, s⟩, ⟨x, y⟩] b 0 2 w (by simp) H.1).mono fun _ _ ⟨h1, h2⟩ => ⟨by rw [h1, H.2]; rfl, h2⟩
set_option maxHeartbeats 1000000 in
theorem meet_ok (w : World) (b : Nat) (c : Ck) (hc : c.Ok) (h : IsCk w b 56 c) (x y : Int) (hg : (St.mk x y).good = true) :
    Calls Try.prog 9 #[.pointer (some ⟨b, 0, none⟩), .agg #[.int .i64 x, .int .i64 y]] w fun e w' => e = .returned (.int .i64 0) ∧ IsCk w' b 56 (c.meet ⟨x, y⟩) ∧ Keep (· = b) w w' := by
  obtain ⟨site, ⟨n, s⟩, told⟩ := c
  obtain ⟨⟨p, q⟩, hpq⟩ : ∃ z, z = (St.mk n s).later ⟨x, y⟩ := ⟨_, rfl⟩
  have HM : Hid (Ck.meet ⟨site, ⟨n, s⟩, told⟩ ⟨x, y⟩ = ⟨site, ⟨p, q⟩, told⟩) := by unfold Ck.meet; dsimp only; rw [← hpq]; rfl
  have HPQ := Lib.hid hpq
  have HC := Lib.hid hc
  have HI := Lib.hid h
  have HG := Lib.hid hg
  clear hc h hg hpq
  go_enter Try.func9, Try.ntmps9
  go_upto_region 5 with (first
    | (go_at_call 20; refine (cnone_any _ b ⟨site, ⟨n, s⟩, told⟩ HC.out 56 (HI.out.keep0 (Keep.alloc _ _ _))).mono ?_; rintro e w' ⟨rfl, rfl⟩)
    | (go_at_call 19; refine (good_yes _ _ HG.out _).mono ?_; rintro e w1 ⟨rfl, hk⟩; have HK1 := Lib.hid hk; have hc1 := hk.rules.1; have hz1 := hk.size; simp at hz1; have hz2 : w.heap.size < w1.heap.size := (by omega); clear hk))
  obtain ⟨r, hr⟩ : ∃ r, r = w.heap.size := ⟨_, rfl⟩
  rw [← hr]
  have HK : Hid (Keep (fun _ => False) w w1) := (Keep.alloc _ _ _).trans HK1.out
  have H0 : Hid (IsSt w1 r ⟨x, y⟩) := by have h0 : IsSt (w.alloc (Obj.cells #[Value.int IntKind.i64 x, Value.int IntKind.i64 y] 29)) r ⟨x, y⟩ := (by rw [hr]; exact heap_alloc_new w _); exact h0.keep0 HK1.out
  have HI1 := Lib.hid (HI.out.keep0 HK.out)
  have HR := Lib.hid hr
  obtain ⟨c0, c1, c2, _⟩ := HI1.out.cells
  obtain ⟨d1, d2, _, _⟩ := H0.out.cells
  have hbl := HI1.out.lt
  have hrl := H0.out.lt
  dsimp only at c0 c1 c2 d1 d2
  clear hc1 hz1 hz2 HK1 hr
  have hRl := (Later.rules w1).1
  refine wp_region_later_from 1 6 (by kernel_rfl) (by kernel_rfl) (fun _ _ d _ _ h => by cases d <;> exact h) ?_
  simp only [List.take_succ_cons, List.take_zero, List.drop_succ_cons, List.drop_zero]
  repeat (refine wpMoves_step (fun K hK => ?_); go_simp; refine hK _ ?_; clear hK K)
  refine wpMoves_nil ?_
  repeat (refine wpQuiet_step (fun K hK => ?_); go_simp; first | (refine hK _ ?_; clear hK K) | (apply Exists.intro; refine ⟨fun _ => ?_, hK _ ?_⟩; (fail); clear hK K))
  refine wpQuiet_nil ?_
  intro _ hw'
  obtain ⟨g, hw''⟩ := hw'
  subst hw''
  obtain ⟨wg, hwg⟩ : ∃ wg, wg = g.world := ⟨_, rfl⟩
  have hk := g.keep
  rw [← hwg] at hk
  rw [← hwg]
  have HKg := Lib.hid (HK.out.trans hk)
  have HIg := Lib.hid (HI1.out.keep0 hk)
  clear hRl c0 c1 c2 d1 d2 hwg hk hbl hrl
  go_wp2_with (go_at_call 21; refine (lcall wg.heap.size n s x y p q HC.out.l HPQ.out.symm _ (heap_alloc_new wg _)).mono ?_; rintro e w3 ⟨rfl, hk3⟩; have HK3 := Lib.hid ((HKg.out.allocR _).trans hk3); have HI3 := Lib.hid (HIg.out.keep0 ((Keep.alloc _ _ _).trans hk3)); obtain ⟨c0, c1, c2, _⟩ := HI3.out.cells; have f1 := HI3.out.free 1; have f2 := HI3.out.free 2; dsimp only at c0 c1 c2; clear hk3)
  go_ret
  exact ⟨rfl, by rw [HM.out]; exact HI3.out.setLast p q, ((HK3.out.mono (fun _ h => h.elim)).setR _ (by rfl)).setR _ (by rfl)⟩
set_option maxHeartbeats 1000000 in
theorem rmeet_ok (w : World) (b : Nat) (c : Ck) (hc : c.Ok) (h : IsCk w b 46 c) (x y : Int) (hg : (St.mk x y).good = true) :
    Calls Try.prog 14 #[.pointer (some ⟨b, 0, none⟩), .agg #[.int .i64 x, .int .i64 y]] w fun e w' => e = .returned (.int .i64 0) ∧ IsCk w' b 46 (c.meet ⟨x, y⟩) ∧ Keep (· = b) w w' := by
  obtain ⟨site, ⟨n, s⟩, told⟩ := c
  obtain ⟨⟨p, q⟩, hpq⟩ : ∃ z, z = (St.mk n s).later ⟨x, y⟩ := ⟨_, rfl⟩
  have HM : Hid (Ck.meet ⟨site, ⟨n, s⟩, told⟩ ⟨x, y⟩ = ⟨site, ⟨p, q⟩, told⟩) := by unfold Ck.meet; dsimp only; rw [← hpq]; rfl
  have HPQ := Lib.hid hpq
  have HC := Lib.hid hc
  have HI := Lib.hid h
  have HG := Lib.hid hg
  clear hc h hg hpq
  go_enter Try.func14, Try.ntmps14
  go_upto_region 3 with (first
    | (go_at_call 23; refine (rgood_yes _ _ HG.out _).mono ?_; rintro e w1 ⟨rfl, hk⟩; have HK1 := Lib.hid hk; have hc1 := hk.rules.1; have hz1 := hk.size; simp at hz1; have hz2 : w.heap.size < w1.heap.size := (by omega); clear hk))
  obtain ⟨r, hr⟩ : ∃ r, r = w.heap.size := ⟨_, rfl⟩
  rw [← hr]
  have HK : Hid (Keep (fun _ => False) w w1) := (Keep.alloc _ _ _).trans HK1.out
  have H0 : Hid (IsSt w1 r ⟨x, y⟩) := by have h0 : IsSt (w.alloc (Obj.cells #[Value.int IntKind.i64 x, Value.int IntKind.i64 y] 29)) r ⟨x, y⟩ := (by rw [hr]; exact heap_alloc_new w _); exact h0.keep0 HK1.out
  have HI1 := Lib.hid (HI.out.keep0 HK.out)
  have HR := Lib.hid hr
  obtain ⟨c0, c1, c2, _⟩ := HI1.out.cells
  obtain ⟨d1, d2, _, _⟩ := H0.out.cells
  have hbl := HI1.out.lt
  have hrl := H0.out.lt
  dsimp only at c0 c1 c2 d1 d2
  clear hc1 hz1 hz2 HK1 hr
  have hRl := (Later.rules w1).1
  refine wp_region_later_from 1 6 (by kernel_rfl) (by kernel_rfl) (fun _ _ d _ _ h => by cases d <;> exact h) ?_
  simp only [List.take_succ_cons, List.take_zero, List.drop_succ_cons, List.drop_zero]
  repeat (refine wpMoves_step (fun K hK => ?_); go_simp; refine hK _ ?_; clear hK K)
  refine wpMoves_nil ?_
  repeat (refine wpQuiet_step (fun K hK => ?_); go_simp; first | (refine hK _ ?_; clear hK K) | (apply Exists.intro; refine ⟨fun _ => ?_, hK _ ?_⟩; (fail); clear hK K))
  refine wpQuiet_nil ?_
  intro _ hw'
  obtain ⟨g, hw''⟩ := hw'
  subst hw''
  obtain ⟨wg, hwg⟩ : ∃ wg, wg = g.world := ⟨_, rfl⟩
  have hk := g.keep
  rw [← hwg] at hk
  rw [← hwg]
  have HKg := Lib.hid (HK.out.trans hk)
  have HIg := Lib.hid (HI1.out.keep0 hk)
  clear hRl c0 c1 c2 d1 d2 hwg hk hbl hrl
  go_wp2_with (go_at_call 24; refine (rlcall wg.heap.size n s x y p q HC.out.l HPQ.out.symm _ (heap_alloc_new wg _)).mono ?_; rintro e w3 ⟨rfl, hk3⟩; have HK3 := Lib.hid ((HKg.out.allocR _).trans hk3); have HI3 := Lib.hid (HIg.out.keep0 ((Keep.alloc _ _ _).trans hk3)); obtain ⟨c0, c1, c2, _⟩ := HI3.out.cells; have f1 := HI3.out.free 1; have f2 := HI3.out.free 2; dsimp only at c0 c1 c2; clear hk3)
  go_ret
  exact ⟨rfl, by rw [HM.out]; exact HI3.out.setLast p q, ((HK3.out.mono (fun _ h => h.elim)).setR _ (by rfl)).setR _ (by rfl)⟩
end Go.Proofs.Ytcadamdlfelocaa
