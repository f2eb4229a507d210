/- Two cells compared whole, walked. -/
import Derived.Test.YtfoklfifgmacfaaS2
namespace Go.Proofs.Ytfoklfifgmacfaa
open Go.RowKit
set_option maxHeartbeats 2000000 in
theorem same_any (n s v0 v1 : Int) (g : Bool) (t : ByteArray) (d0 d1 : Int) (n' s' v0' v1' : Int) (g' : Bool) (t' : ByteArray) (d0' d1' : Int) (w : World) :
    Calls Try.prog 27 #[.agg #[.int .i64 n, .int .i64 s, .int .i64 v0, .int .i64 v1, .bool g, .string t, .int .i64 d0, .int .i64 d1], .agg #[.int .i64 n', .int .i64 s', .int .i64 v0', .int .i64 v1', .bool g', .string t', .int .i64 d0', .int .i64 d1']] w fun e w' => e = .returned (.bool (decide ((⟨n, s, v0, v1, g, t, d0, d1⟩ : C) = ⟨n', s', v0', v1', g', t', d0', d1'⟩))) ∧ Keep (fun _ => False) w w' := by
  by_cases h_n : n = n'
  · subst h_n
    by_cases h_s : s = s'
    · subst h_s
      by_cases h_v0 : v0 = v0'
      · subst h_v0
        by_cases h_v1 : v1 = v1'
        · subst h_v1
          by_cases h_g : g = g'
          · subst h_g
            by_cases h_t : t = t'
            · subst h_t
              by_cases h_d0 : d0 = d0'
              · subst h_d0
                by_cases h_d1 : d1 = d1'
                · subst h_d1
                  have hv : decide ((⟨n, s, v0, v1, g, t, d0, d1⟩ : C) = ⟨n, s, v0, v1, g, t, d0, d1⟩) = true := by simp
                  rw [hv]; clear hv
                  go_enter Try.func27, Try.ntmps27
                  have h25 := fun a b c e => equalIn25 9998 a b c e
                  go_wp2
                  all_goals
                    go_ret
                    exact ⟨ret_bool (by simp at *), by repeat (first | exact Keep.refl _ _ | assumption | refine Keep.trans ?_ (by assumption) | refine Keep.allocR ?_ _ | refine Keep.drewNR ?_ _ | refine Keep.setNew ?_ (by simp) _)⟩
                · have e_d1 : (d1 == d1') = false := by simpa using h_d1
                  have hv : decide ((⟨n, s, v0, v1, g, t, d0, d1⟩ : C) = ⟨n, s, v0, v1, g, t, d0, d1'⟩) = false := decide_eq_false (fun h => h_d1 (congrArg C.d1 h))
                  rw [hv]; clear hv
                  go_enter Try.func27, Try.ntmps27
                  have h25 := fun a b c e => equalIn25 9998 a b c e
                  go_wp2
                  all_goals
                    go_ret
                    exact ⟨ret_bool (by simp at *), by repeat (first | exact Keep.refl _ _ | assumption | refine Keep.trans ?_ (by assumption) | refine Keep.allocR ?_ _ | refine Keep.drewNR ?_ _ | refine Keep.setNew ?_ (by simp) _)⟩
              · have e_d0 : (d0 == d0') = false := by simpa using h_d0
                have hv : decide ((⟨n, s, v0, v1, g, t, d0, d1⟩ : C) = ⟨n, s, v0, v1, g, t, d0', d1'⟩) = false := decide_eq_false (fun h => h_d0 (congrArg C.d0 h))
                rw [hv]; clear hv
                go_enter Try.func27, Try.ntmps27
                have h25 := fun a b c e => equalIn25 9998 a b c e
                go_wp2
                all_goals
                  go_ret
                  exact ⟨ret_bool (by simp at *), by repeat (first | exact Keep.refl _ _ | assumption | refine Keep.trans ?_ (by assumption) | refine Keep.allocR ?_ _ | refine Keep.drewNR ?_ _ | refine Keep.setNew ?_ (by simp) _)⟩
            · have e_t := str_neq h_t
              have hv : decide ((⟨n, s, v0, v1, g, t, d0, d1⟩ : C) = ⟨n, s, v0, v1, g, t', d0', d1'⟩) = false := decide_eq_false (fun h => h_t (congrArg C.value h))
              rw [hv]; clear hv
              go_enter Try.func27, Try.ntmps27
              have h25 := fun a b c e => equalIn25 9998 a b c e
              go_wp2
              all_goals
                go_ret
                exact ⟨ret_bool (by simp at *), by repeat (first | exact Keep.refl _ _ | assumption | refine Keep.trans ?_ (by assumption) | refine Keep.allocR ?_ _ | refine Keep.drewNR ?_ _ | refine Keep.setNew ?_ (by simp) _)⟩
          · have e_g : (g == g') = false := by simpa using h_g
            have hv : decide ((⟨n, s, v0, v1, g, t, d0, d1⟩ : C) = ⟨n, s, v0, v1, g', t', d0', d1'⟩) = false := decide_eq_false (fun h => h_g (congrArg C.gone h))
            rw [hv]; clear hv
            go_enter Try.func27, Try.ntmps27
            have h25 := fun a b c e => equalIn25 9998 a b c e
            go_wp2
            all_goals
              go_ret
              exact ⟨ret_bool (by simp at *), by repeat (first | exact Keep.refl _ _ | assumption | refine Keep.trans ?_ (by assumption) | refine Keep.allocR ?_ _ | refine Keep.drewNR ?_ _ | refine Keep.setNew ?_ (by simp) _)⟩
        · have e_v1 : (v1 == v1') = false := by simpa using h_v1
          have hv : decide ((⟨n, s, v0, v1, g, t, d0, d1⟩ : C) = ⟨n, s, v0, v1', g', t', d0', d1'⟩) = false := decide_eq_false (fun h => h_v1 (congrArg C.v1 h))
          rw [hv]; clear hv
          go_enter Try.func27, Try.ntmps27
          have h25 := fun a b c e => equalIn25 9998 a b c e
          go_wp2
          all_goals
            go_ret
            exact ⟨ret_bool (by simp at *), by repeat (first | exact Keep.refl _ _ | assumption | refine Keep.trans ?_ (by assumption) | refine Keep.allocR ?_ _ | refine Keep.drewNR ?_ _ | refine Keep.setNew ?_ (by simp) _)⟩
      · have e_v0 : (v0 == v0') = false := by simpa using h_v0
        have hv : decide ((⟨n, s, v0, v1, g, t, d0, d1⟩ : C) = ⟨n, s, v0', v1', g', t', d0', d1'⟩) = false := decide_eq_false (fun h => h_v0 (congrArg C.v0 h))
        rw [hv]; clear hv
        go_enter Try.func27, Try.ntmps27
        have h25 := fun a b c e => equalIn25 9998 a b c e
        go_wp2
        all_goals
          go_ret
          exact ⟨ret_bool (by simp at *), by repeat (first | exact Keep.refl _ _ | assumption | refine Keep.trans ?_ (by assumption) | refine Keep.allocR ?_ _ | refine Keep.drewNR ?_ _ | refine Keep.setNew ?_ (by simp) _)⟩
    · have e_s : (s == s') = false := by simpa using h_s
      have hv : decide ((⟨n, s, v0, v1, g, t, d0, d1⟩ : C) = ⟨n, s', v0', v1', g', t', d0', d1'⟩) = false := decide_eq_false (fun h => h_s (congrArg C.s h))
      rw [hv]; clear hv
      go_enter Try.func27, Try.ntmps27
      have h25 := fun a b c e => equalIn25 9998 a b c e
      go_wp2
      all_goals
        go_ret
        exact ⟨ret_bool (by simp at *), by repeat (first | exact Keep.refl _ _ | assumption | refine Keep.trans ?_ (by assumption) | refine Keep.allocR ?_ _ | refine Keep.drewNR ?_ _ | refine Keep.setNew ?_ (by simp) _)⟩
  · have e_n : (n == n') = false := by simpa using h_n
    have hv : decide ((⟨n, s, v0, v1, g, t, d0, d1⟩ : C) = ⟨n', s', v0', v1', g', t', d0', d1'⟩) = false := decide_eq_false (fun h => h_n (congrArg C.n h))
    rw [hv]; clear hv
    go_enter Try.func27, Try.ntmps27
    have h25 := fun a b c e => equalIn25 9998 a b c e
    go_wp2
    all_goals
      go_ret
      exact ⟨ret_bool (by simp at *), by repeat (first | exact Keep.refl _ _ | assumption | refine Keep.trans ?_ (by assumption) | refine Keep.allocR ?_ _ | refine Keep.drewNR ?_ _ | refine Keep.setNew ?_ (by simp) _)⟩
end Go.Proofs.Ytfoklfifgmacfaa
