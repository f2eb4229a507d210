/- Stamps and cells compared, walked, of both texts. -/
import Derived.Test.YtfoklfifgmacfaaS0
import Derived.Test.YtfoklfifgmacfaaReg
namespace Go.Proofs.Ytfoklfifgmacfaa
open Go.RowKit
set_option maxHeartbeats 400000 in
theorem sless_any (n s m t : Int) (w : World) :
    Calls Try.prog 21 #[.agg #[.int .i64 n, .int .i64 s], .agg #[.int .i64 m, .int .i64 t]] w fun e w' => e = .returned (.bool (sless n s m t)) ∧ Keep (fun _ => False) w w' := by
  unfold sless
  go_enter Try.func21, Try.ntmps21
  go_wp2
  all_goals
    go_ret
    refine ⟨ret_bool ?_, (Keep.alloc _ _ _).allocR _⟩
    refine Bool.eq_iff_iff.2 ?_
    simp at * <;> omega
set_option maxHeartbeats 400000 in
theorem rsless_any (n s m t : Int) (w : World) :
    Calls Try.prog 22 #[.agg #[.int .i64 n, .int .i64 s], .agg #[.int .i64 m, .int .i64 t]] w fun e w' => e = .returned (.bool (sless n s m t)) ∧ Keep (fun _ => False) w w' := by
  unfold sless
  by_cases h1 : n = m
  · subst h1
    go_enter Try.func22, Try.ntmps22
    go_wp2
    all_goals
      go_ret
      refine ⟨ret_bool ?_, (Keep.alloc _ _ _).allocR _⟩
      refine Bool.eq_iff_iff.2 ?_
      simp at * <;> omega
  · have h2 : (n == m) = false := by simpa using h1
    go_enter Try.func22, Try.ntmps22
    go_wp2
    all_goals
      go_ret
      refine ⟨ret_bool ?_, (Keep.alloc _ _ _).allocR _⟩
      refine Bool.eq_iff_iff.2 ?_
      simp at * <;> omega
set_option maxHeartbeats 400000 in
theorem write_any (n s v0 v1 : Int) (g : Bool) (t : ByteArray) (d0 d1 : Int) (w : World) :
    Calls Try.prog 20 #[.agg #[.int .i64 n, .int .i64 s, .int .i64 v0, .int .i64 v1, .bool g, .string t, .int .i64 d0, .int .i64 d1]] w
      fun e w' => e = .returned (.agg #[.int .i64 n, .int .i64 s, .int .i64 v0, .int .i64 v1, .bool g, .string t, .int .i64 0, .int .i64 0]) ∧ Keep (fun _ => False) w w' := by
  go_enter Try.func20, Try.ntmps20
  go_wp2
  exact bodyPost_ret (v := .agg #[.int .i64 n, .int .i64 s, .int .i64 v0, .int .i64 v1, .bool g, .string t, .int .i64 0, .int .i64 0]) (by simp [results, Try.results20, go_sem, *]) rfl
    ⟨rfl, by repeat (first | exact Keep.refl _ _ | assumption | refine Keep.trans ?_ (by assumption) | refine Keep.allocR ?_ _ | refine Keep.drewNR ?_ _ | refine Keep.setNew ?_ (by simp) _)⟩
end Go.Proofs.Ytfoklfifgmacfaa
