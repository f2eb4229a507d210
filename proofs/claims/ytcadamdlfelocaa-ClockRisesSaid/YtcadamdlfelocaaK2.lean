/- A clock's methods, walked. -/
import Derived.Test.YtcadamdlfelocaaK1
import Derived.Test.YtcadamdlfelocaaReg
namespace Go.Proofs.Ytcadamdlfelocaa
open Go.RowKit
theorem next_at (n s now site a b f : Int) (h : (St.mk n s).next now site = (⟨a, b⟩, f)) (w : World) :
    Calls Try.prog 25 #[.agg #[.int .i64 n, .int .i64 s], .int .i64 now, .int .i64 site] w fun e w' => e = .returned (.tuple #[.agg #[.int .i64 a, .int .i64 b], .int .i64 f]) ∧ Keep (fun _ => False) w w' :=
  (next_any ⟨n, s⟩ now site w).mono fun _ _ ⟨h1, h2⟩ => ⟨by rw [h1, h]; rfl, h2⟩
theorem rnext_at (n s now site a b f : Int) (h : (St.mk n s).next now site = (⟨a, b⟩, f)) (w : World) :
    Calls Try.prog 26 #[.agg #[.int .i64 n, .int .i64 s], .int .i64 now, .int .i64 site] w fun e w' => e = .returned (.tuple #[.agg #[.int .i64 a, .int .i64 b], .int .i64 f]) ∧ Keep (fun _ => False) w w' :=
  (rnext_any ⟨n, s⟩ now site w).mono fun _ _ ⟨h1, h2⟩ => ⟨by rw [h1, h]; rfl, h2⟩
set_option maxHeartbeats 1000000 in
theorem peek_ok (w : World) (b : Nat) (c : Ck) (hc : c.Ok) (h : IsCk w b 56 c) (now x y f : Int) (hx : c.last.next now c.site = (⟨x, y⟩, f)) :
    Calls Try.prog 15 #[.pointer (some ⟨b, 0, none⟩), .int .i64 now] w fun e w' => e = .returned (.tuple #[.agg #[.int .i64 x, .int .i64 y], .int .i64 f]) ∧ Keep (fun _ => False) w w' := by
  obtain ⟨site, ⟨n, s⟩, told⟩ := c
  have HC := Lib.hid hc
  have HI := Lib.hid h
  have HX := Lib.hid hx
  clear hc h hx
  go_enter Try.func15, Try.ntmps15
  go_upto_region 3 with (go_at_call 20; refine (cnone_any _ b ⟨site, ⟨n, s⟩, told⟩ HC.out 56 (HI.out.keep0 (Keep.alloc _ _ _))).mono ?_; rintro e w' ⟨rfl, rfl⟩)
  obtain ⟨r, hr⟩ : ∃ r, r = w.heap.size := ⟨_, rfl⟩
  rw [← hr]
  generalize hwa : w.alloc (Obj.cells #[Value.int IntKind.i64 0, Value.int IntKind.i64 0] 29) = wa
  have H0 : Hid (IsSt wa r ⟨0, 0⟩) := by rw [← hwa, hr]; exact heap_alloc_new w _
  have K0 : Hid (Keep (fun _ => False) w wa) := by rw [← hwa]; exact Keep.alloc _ _ _
  have HR := Lib.hid hr
  have HI1 := Lib.hid (HI.out.keep0 K0.out)
  obtain ⟨c0, c1, c2, _⟩ := HI1.out.cells
  have hbl := HI1.out.lt
  dsimp only at c0 c1 c2
  have hRl := (Later.rules wa).1
  clear hr hwa
  refine wp_region_later_tail 12 (by kernel_rfl) (by kernel_rfl) ?_
  simp only [List.take_succ_cons, List.take_zero, List.drop_succ_cons, List.drop_zero]
  repeat (refine wpQuiet_step (fun K hK => ?_); go_simp; first | (refine hK _ ?_; clear hK K) | (apply Exists.intro; refine ⟨fun _ => ?_, hK _ ?_⟩; ((go_at_call 25; exact Later.call (next_at n s now site x y f HX.out _))); clear hK K))
  refine wpQuiet_nil ?_
  intro _ hw'
  obtain ⟨g, hw''⟩ := hw'
  subst hw''
  have H1 := H0.out.keep0 g.keep
  have K1 := K0.out.trans g.keep
  obtain ⟨y1, y2, y3, y4⟩ := H1.cells
  dsimp only at y1 y2
  clear hRl c0 c1 c2
  go_wp2_with fail
  exact bodyPost_ret (v := .tuple #[.agg #[.int .i64 x, .int .i64 y], .int .i64 f]) (by simp [results, Try.results15, go_sem, *]) rfl
    ⟨rfl, (K1.setNew (by have := HR.out; dsimp only; omega) _).setNew (by have := HR.out; dsimp only; omega) _⟩
set_option maxHeartbeats 1000000 in
theorem rpeek_ok (w : World) (b : Nat) (c : Ck) (h : IsCk w b 46 c) (now x y f : Int) (hx : c.last.next now c.site = (⟨x, y⟩, f)) :
    Calls Try.prog 16 #[.pointer (some ⟨b, 0, none⟩), .int .i64 now] w fun e w' => e = .returned (.tuple #[.agg #[.int .i64 x, .int .i64 y], .int .i64 f]) ∧ Keep (fun _ => False) w w' := by
  obtain ⟨site, ⟨n, s⟩, told⟩ := c
  have HI := Lib.hid h
  have HX := Lib.hid hx
  clear h hx
  go_enter Try.func16, Try.ntmps16
  go_upto_region 1 with fail
  obtain ⟨r, hr⟩ : ∃ r, r = w.heap.size := ⟨_, rfl⟩
  rw [← hr]
  generalize hwa : w.alloc (Obj.cells #[Value.int IntKind.i64 0, Value.int IntKind.i64 0] 29) = wa
  have H0 : Hid (IsSt wa r ⟨0, 0⟩) := by rw [← hwa, hr]; exact heap_alloc_new w _
  have K0 : Hid (Keep (fun _ => False) w wa) := by rw [← hwa]; exact Keep.alloc _ _ _
  have HR := Lib.hid hr
  have HI1 := Lib.hid (HI.out.keep0 K0.out)
  obtain ⟨c0, c1, c2, _⟩ := HI1.out.cells
  have hbl := HI1.out.lt
  dsimp only at c0 c1 c2
  have hRl := (Later.rules wa).1
  clear hr hwa
  refine wp_region_later_tail 12 (by kernel_rfl) (by kernel_rfl) ?_
  simp only [List.take_succ_cons, List.take_zero, List.drop_succ_cons, List.drop_zero]
  repeat (refine wpQuiet_step (fun K hK => ?_); go_simp; first | (refine hK _ ?_; clear hK K) | (apply Exists.intro; refine ⟨fun _ => ?_, hK _ ?_⟩; ((go_at_call 26; exact Later.call (rnext_at n s now site x y f HX.out _))); clear hK K))
  refine wpQuiet_nil ?_
  intro _ hw'
  obtain ⟨g, hw''⟩ := hw'
  subst hw''
  have H1 := H0.out.keep0 g.keep
  have K1 := K0.out.trans g.keep
  obtain ⟨y1, y2, y3, y4⟩ := H1.cells
  dsimp only at y1 y2
  clear hRl c0 c1 c2
  go_wp2_with fail
  exact bodyPost_ret (v := .tuple #[.agg #[.int .i64 x, .int .i64 y], .int .i64 f]) (by simp [results, Try.results16, go_sem, *]) rfl
    ⟨rfl, (K1.setNew (by have := HR.out; dsimp only; omega) _).setNew (by have := HR.out; dsimp only; omega) _⟩
end Go.Proofs.Ytcadamdlfelocaa
