/- Two cells compared, walked, of both texts. -/
import Derived.Test.YtfoklfifgmacfaaS1
namespace Go.Proofs.Ytfoklfifgmacfaa
open Go.RowKit
theorem str_neq {a b : ByteArray} (h : ¬ a = b) : (a.toList == b.toList) = false := by
  cases hh : (a.toList == b.toList) with
  | false => rfl
  | true => exact absurd (bytes_ext (by simpa using hh)) h
set_option maxHeartbeats 1000000 in
theorem rless_any (n s v0 v1 : Int) (g : Bool) (t : ByteArray) (d0 d1 : Int) (n' s' v0' v1' : Int) (g' : Bool) (t' : ByteArray) (d0' d1' : Int) (w : World) :
    Calls Try.prog 11 #[.agg #[.int .i64 n, .int .i64 s, .int .i64 v0, .int .i64 v1, .bool g, .string t, .int .i64 d0, .int .i64 d1], .agg #[.int .i64 n', .int .i64 s', .int .i64 v0', .int .i64 v1', .bool g', .string t', .int .i64 d0', .int .i64 d1']] w fun e w' => e = .returned (.bool (C.less ⟨n, s, v0, v1, g, t, d0, d1⟩ ⟨n', s', v0', v1', g', t', d0', d1'⟩)) ∧ Keep (fun _ => False) w w' := by
  by_cases h1 : n = n'
  · by_cases h2 : s = s'
    · subst h1; subst h2
      by_cases h3 : g = g'
      · subst h3
        by_cases h4 : t = t'
        · subst h4
          by_cases h5 : v0 = v0'
          · subst h5
            by_cases h6 : v1 = v1'
            · subst h6
              have hv : C.less ⟨n, s, v0, v1, g, t, d0, d1⟩ ⟨n, s, v0, v1, g, t, d0', d1'⟩ = false := by simp [C.less]
              rw [hv]; clear hv
              go_enter Try.func11, Try.ntmps11
              go_wp2_with (go_at_call 22; refine (rsless_any _ _ _ _ _).mono ?_; rintro e w1 ⟨rfl, hk⟩; have HK := hk; obtain ⟨hc, hf⟩ := hk.rules; clear hk)
              all_goals
                go_ret
                exact ⟨ret_bool (by simp at *), by repeat (first | exact Keep.refl _ _ | assumption | refine Keep.trans ?_ (by assumption) | refine Keep.allocR ?_ _ | refine Keep.drewNR ?_ _ | refine Keep.setNew ?_ (by simp) _)⟩
            · have e6 : (v1 == v1') = false := by simpa using h6
              have hv : C.less ⟨n, s, v0, v1, g, t, d0, d1⟩ ⟨n, s, v0, v1', g, t, d0', d1'⟩ = decide (v1 < v1') := by simp [C.less]
              rw [hv]; clear hv
              go_enter Try.func11, Try.ntmps11
              go_wp2_with (go_at_call 22; refine (rsless_any _ _ _ _ _).mono ?_; rintro e w1 ⟨rfl, hk⟩; have HK := hk; obtain ⟨hc, hf⟩ := hk.rules; clear hk)
              all_goals
                go_ret
                exact ⟨ret_bool (by simp at *), by repeat (first | exact Keep.refl _ _ | assumption | refine Keep.trans ?_ (by assumption) | refine Keep.allocR ?_ _ | refine Keep.drewNR ?_ _ | refine Keep.setNew ?_ (by simp) _)⟩
          · have e5 : (v0 == v0') = false := by simpa using h5
            have hv : C.less ⟨n, s, v0, v1, g, t, d0, d1⟩ ⟨n, s, v0', v1', g, t, d0', d1'⟩ = decide (v0 < v0') := by simp [C.less, h5]
            rw [hv]; clear hv
            go_enter Try.func11, Try.ntmps11
            go_wp2_with (go_at_call 22; refine (rsless_any _ _ _ _ _).mono ?_; rintro e w1 ⟨rfl, hk⟩; have HK := hk; obtain ⟨hc, hf⟩ := hk.rules; clear hk)
            all_goals
              go_ret
              exact ⟨ret_bool (by simp at *), by repeat (first | exact Keep.refl _ _ | assumption | refine Keep.trans ?_ (by assumption) | refine Keep.allocR ?_ _ | refine Keep.drewNR ?_ _ | refine Keep.setNew ?_ (by simp) _)⟩
        · have e4 := str_neq h4
          have hv : C.less ⟨n, s, v0, v1, g, t, d0, d1⟩ ⟨n, s, v0', v1', g, t', d0', d1'⟩ = Op.bytesLess t.toList t'.toList := by simp [C.less, h4]
          rw [hv]; clear hv
          go_enter Try.func11, Try.ntmps11
          go_wp2_with (go_at_call 22; refine (rsless_any _ _ _ _ _).mono ?_; rintro e w1 ⟨rfl, hk⟩; have HK := hk; obtain ⟨hc, hf⟩ := hk.rules; clear hk)
          all_goals
            go_ret
            exact ⟨ret_bool (by simp at *), by repeat (first | exact Keep.refl _ _ | assumption | refine Keep.trans ?_ (by assumption) | refine Keep.allocR ?_ _ | refine Keep.drewNR ?_ _ | refine Keep.setNew ?_ (by simp) _)⟩
      · have e3 : (g == g') = false := by simpa using h3
        have hv : C.less ⟨n, s, v0, v1, g, t, d0, d1⟩ ⟨n, s, v0', v1', g', t', d0', d1'⟩ = g' := by simp [C.less, h3]
        rw [hv]; clear hv
        go_enter Try.func11, Try.ntmps11
        go_wp2_with (go_at_call 22; refine (rsless_any _ _ _ _ _).mono ?_; rintro e w1 ⟨rfl, hk⟩; have HK := hk; obtain ⟨hc, hf⟩ := hk.rules; clear hk)
        all_goals
          go_ret
          exact ⟨ret_bool (by simp at *), by repeat (first | exact Keep.refl _ _ | assumption | refine Keep.trans ?_ (by assumption) | refine Keep.allocR ?_ _ | refine Keep.drewNR ?_ _ | refine Keep.setNew ?_ (by simp) _)⟩
    · subst h1
      have e2 : (s == s') = false := by simpa using h2
      have hv : C.less ⟨n, s, v0, v1, g, t, d0, d1⟩ ⟨n, s', v0', v1', g', t', d0', d1'⟩ = sless n s n s' := by simp [C.less, h2]
      rw [hv]; clear hv
      go_enter Try.func11, Try.ntmps11
      go_wp2_with (go_at_call 22; refine (rsless_any _ _ _ _ _).mono ?_; rintro e w1 ⟨rfl, hk⟩; have HK := hk; obtain ⟨hc, hf⟩ := hk.rules; clear hk)
      all_goals
        go_ret
        exact ⟨ret_bool (by simp at *), by repeat (first | exact Keep.refl _ _ | assumption | refine Keep.trans ?_ (by assumption) | refine Keep.allocR ?_ _ | refine Keep.drewNR ?_ _ | refine Keep.setNew ?_ (by simp) _)⟩
  · have e1 : (n == n') = false := by simpa using h1
    have hv : C.less ⟨n, s, v0, v1, g, t, d0, d1⟩ ⟨n', s', v0', v1', g', t', d0', d1'⟩ = sless n s n' s' := by simp [C.less, h1]
    rw [hv]; clear hv
    go_enter Try.func11, Try.ntmps11
    go_wp2_with (go_at_call 22; refine (rsless_any _ _ _ _ _).mono ?_; rintro e w1 ⟨rfl, hk⟩; have HK := hk; obtain ⟨hc, hf⟩ := hk.rules; clear hk)
    all_goals
      go_ret
      exact ⟨ret_bool (by simp at *), by repeat (first | exact Keep.refl _ _ | assumption | refine Keep.trans ?_ (by assumption) | refine Keep.allocR ?_ _ | refine Keep.drewNR ?_ _ | refine Keep.setNew ?_ (by simp) _)⟩
end Go.Proofs.Ytfoklfifgmacfaa
