/- Which stamps, vectors and cells may be, walked. -/
import Derived.Test.YtfoklfifgmacfaaK4
import Derived.Test.YtfoklfifgmacfaaM2
namespace Go.Proofs.Ytfoklfifgmacfaa
open Go.RowKit
set_option maxHeartbeats 400000 in
theorem known_any (s : Int) (w : World) :
    Calls Try.prog 37 #[.int .i64 s] w fun e w' => e = .returned (.bool (decide (s = 1 ∨ s = 2))) ∧ w = w' := by
  by_cases h1 : s = 1
  · subst h1
    go_enter Try.func37, Try.ntmps37
    go_wp2
    go_ret
    exact ⟨rfl, rfl⟩
  · by_cases h2 : s = 2
    · subst h2
      go_enter Try.func37, Try.ntmps37
      go_wp2
      go_ret
      exact ⟨rfl, rfl⟩
    · have e1 : (s == 1) = false := by simpa using h1
      have e2 : (s == 2) = false := by simpa using h2
      have h : decide (s = 1 ∨ s = 2) = false := by simp [h1, h2]
      rw [h]
      clear h h1 h2
      go_enter Try.func37, Try.ntmps37
      go_wp2
      go_ret
      exact ⟨rfl, rfl⟩
set_option maxHeartbeats 400000 in
theorem sgood_any (n s : Int) (w : World) :
    Calls Try.prog 30 #[.agg #[.int .i64 n, .int .i64 s]] w fun e w' => e = .returned (.bool (sgood n s)) ∧ Keep (fun _ => False) w w' := by
  unfold sgood
  go_enter Try.func30, Try.ntmps30
  go_wp2_with (go_at_call 37; refine (known_any _ _).mono ?_; rintro e w' ⟨rfl, rfl⟩)
  all_goals
    go_ret
    refine ⟨ret_bool ?_, Keep.alloc _ _ _⟩
    refine Bool.eq_iff_iff.2 ?_
    simp at * <;> omega
set_option maxHeartbeats 1000000 in
theorem vgood_any (p q : Int) (w : World) :
    Calls Try.prog 28 #[.agg #[.int .i64 p, .int .i64 q]] w fun e w' => e = .returned (.bool (vgood p q)) ∧ Keep (fun _ => False) w w' := by
  have HT : Hid (∀ w, Calls Try.prog 33 #[.agg #[.int .i64 p, .int .i64 q], .agg #[.int .i64 0, .int .i64 0], .func (.func 36) #[] #[]] w fun e w' => e = .returned (.agg #[.int .i64 (min (max p 0) 1099511627776), .int .i64 (min (max q 0) 1099511627776)]) ∧ Keep (fun _ => False) w w') := fun w => each36_any p q 0 0 w
  have hv : vgood p q = decide (min (max p 0) 1099511627776 = p ∧ min (max q 0) 1099511627776 = q) := by
    unfold vgood
    refine Bool.eq_iff_iff.2 ?_
    simp only [decide_eq_true_eq]
    omega
  rw [hv]
  clear hv
  generalize min (max p 0) 1099511627776 = z0 at *
  generalize min (max q 0) 1099511627776 = z1 at *
  have H25 := fun w => equalIn25 9998 z0 z1 p q w
  generalize decide (z0 = p ∧ z1 = q) = r at *
  go_enter Try.func28, Try.ntmps28
  go_upto_region 1 with fail
  obtain ⟨b, hb⟩ : ∃ b, b = w.heap.size := ⟨_, rfl⟩
  rw [← hb]
  generalize hwa : w.alloc (Obj.cells #[Value.int IntKind.i64 p, Value.int IntKind.i64 q] 25) = wa
  have H0 : Hid (IsV wa b p q) := by rw [← hwa, hb]; exact IsV.new w p q
  have K0 : Hid (Keep (fun _ => False) w wa) := by rw [← hwa]; exact Keep.alloc _ _ _
  obtain ⟨c0, c1, _, _⟩ := H0.out.cells
  have hl := H0.out.lt
  clear hb hwa
  have hRl := (Later.rules wa).1
  refine wp_region_later (by kernel_rfl) (by kernel_rfl) ?_
  repeat (refine wpQuiet_step (fun K hK => ?_); go_simp; first | (refine hK _ ?_; clear hK K) | (apply Exists.intro; refine ⟨fun g => ?_, hK _ ?_⟩; (go_at_call 33; exact Later.call (HT.out _)); clear hK K))
  refine wpQuiet_nil ?_
  intro _ hw'
  obtain ⟨g, hw''⟩ := hw'
  subst hw''
  have HK := Lib.hid (K0.out.trans g.keep)
  go_wp2_with fail
  go_ret
  exact ⟨rfl, HK.out⟩
set_option maxHeartbeats 1000000 in
theorem written_any (n s v0 v1 : Int) (g : Bool) (t : ByteArray) (d0 d1 : Int) (w : World) :
    Calls Try.prog 29 #[.agg #[.int .i64 n, .int .i64 s, .int .i64 v0, .int .i64 v1, .bool g, .string t, .int .i64 d0, .int .i64 d1]] w fun e w' => e = .returned (.bool (C.written ⟨n, s, v0, v1, g, t, d0, d1⟩)) ∧ Keep (fun _ => False) w w' := by
  have hv : C.written ⟨n, s, v0, v1, g, t, d0, d1⟩ = ! decide ((⟨n, s, v0, v1, g, t, 0, 0⟩ : C) = ⟨0, 0, 0, 0, false, ⟨#[]⟩, 0, 0⟩) := rfl
  rw [hv]
  clear hv
  have H27 := fun w => equalIn27 9997 ⟨n, s, v0, v1, g, t, 0, 0⟩ ⟨0, 0, 0, 0, false, ⟨#[]⟩, 0, 0⟩ w
  generalize decide ((⟨n, s, v0, v1, g, t, 0, 0⟩ : C) = ⟨0, 0, 0, 0, false, ⟨#[]⟩, 0, 0⟩) = r at *
  dsimp only at H27
  go_enter Try.func29, Try.ntmps29
  go_wp2
  go_ret
  exact ⟨rfl, by repeat (first | exact Keep.refl _ _ | assumption | refine Keep.trans ?_ (by assumption) | refine Keep.allocR ?_ _ | refine Keep.drewNR ?_ _ | refine Keep.setNew ?_ (by simp) _)⟩
end Go.Proofs.Ytfoklfifgmacfaa
