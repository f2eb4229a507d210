/- A digit's value, walked. -/
import Derived.Test.YtoeniimgbinflaaDoorU1
namespace Go.Proofs.YtoeniimgbinflaaDoor
open Go.RowKit
theorem value_any (c : UInt8) (w : World) : Calls Tryd.prog 22 #[.int .u8 (c.toNat : Int)] w fun e w' => e = .returned (.tuple #[.int .u8 (((dv c).getD 0 : Nat) : Int), .bool (dv c).isSome]) ∧ w' = w := by
  have hc := UInt8.toNat_lt c
  unfold dv
  obtain ⟨n, hn⟩ : ∃ n, c.toNat = n := ⟨_, rfl⟩
  rw [hn] at hc ⊢
  clear hn
  by_cases h1 : 48 ≤ n ∧ n ≤ 57
  · rw [if_pos h1]
    obtain ⟨k, hk⟩ : ∃ k, n - 48 = k := ⟨_, rfl⟩
    have a1 : (48 : Int) ≤ n := by omega
    have a2 : (n : Int) ≤ 57 := by omega
    have HK : Hid ((n : Int) - 48 = k) := Lib.hid (by omega)
    simp only [Option.getD_some, Option.isSome_some, hk]
    clear h1 hk
    go_enter Tryd.func22, Tryd.ntmps22
    go_wp2_with fail
    refine bodyPost_ret (results_tmp2 Tryd.results22 _ _ _) rfl ⟨?_, rfl⟩
    simp [HK.out]
  · rw [if_neg h1]
    by_cases h2 : 97 ≤ n ∧ n ≤ 102
    · rw [if_pos h2]
      obtain ⟨k, hk⟩ : ∃ k, n - 97 + 10 = k := ⟨_, rfl⟩
      have a1 : (48 : Int) ≤ n := by omega
      have a2 : ¬ (n : Int) ≤ 57 := by omega
      have a3 : (97 : Int) ≤ n := by omega
      have a4 : (n : Int) ≤ 102 := by omega
      have HK : Hid ((n : Int) - 97 + 10 = k) := Lib.hid (by omega)
      simp only [Option.getD_some, Option.isSome_some, hk]
      clear h1 h2 hk
      go_enter Tryd.func22, Tryd.ntmps22
      go_wp2_with fail
      refine bodyPost_ret (results_tmp2 Tryd.results22 _ _ _) rfl ⟨?_, rfl⟩
      simp [HK.out]
    · rw [if_neg h2]
      simp only [Option.getD_none, Option.isSome_none]
      by_cases h3 : n < 48
      · have a1 : ¬ (48 : Int) ≤ n := by omega
        have a3 : ¬ (97 : Int) ≤ n := by omega
        clear h1 h2 h3
        go_enter Tryd.func22, Tryd.ntmps22
        go_wp2_with fail
        exact bodyPost_ret (results_tmp2 Tryd.results22 _ _ _) rfl ⟨rfl, rfl⟩
      · have a1 : (48 : Int) ≤ n := by omega
        have a2 : ¬ (n : Int) ≤ 57 := by omega
        by_cases h4 : n < 97
        · have a3 : ¬ (97 : Int) ≤ n := by omega
          clear h1 h2 h3 h4
          go_enter Tryd.func22, Tryd.ntmps22
          go_wp2_with fail
          exact bodyPost_ret (results_tmp2 Tryd.results22 _ _ _) rfl ⟨rfl, rfl⟩
        · have a3 : (97 : Int) ≤ n := by omega
          have a4 : ¬ (n : Int) ≤ 102 := by omega
          clear h1 h2 h3 h4
          go_enter Tryd.func22, Tryd.ntmps22
          go_wp2_with fail
          exact bodyPost_ret (results_tmp2 Tryd.results22 _ _ _) rfl ⟨rfl, rfl⟩
/-- What the reference says of a digit. -/
def dg (c : UInt8) : Int := match dv c with | some k => k | none => -1
theorem digit_any (c : UInt8) (w : World) : Calls Tryd.prog 23 #[.int .u8 (c.toNat : Int)] w fun e w' => e = .returned (.int .i64 (dg c)) ∧ w' = w := by
  have hc := UInt8.toNat_lt c
  unfold dg dv
  obtain ⟨n, hn⟩ : ∃ n, c.toNat = n := ⟨_, rfl⟩
  rw [hn] at hc ⊢
  clear hn
  by_cases h1 : 48 ≤ n ∧ n ≤ 57
  · rw [if_pos h1]
    obtain ⟨k, hk⟩ : ∃ k, n - 48 = k := ⟨_, rfl⟩
    have a1 : (48 : Int) ≤ n := by omega
    have a2 : (n : Int) ≤ 57 := by omega
    have HK : Hid ((n : Int) - 48 = k) := Lib.hid (by omega)
    dsimp only
    rw [hk]
    clear h1 hk
    go_enter Tryd.func23, Tryd.ntmps23
    go_wp2_with fail
    refine bodyPost_ret (results_tmp Tryd.results23 _ _ _) rfl ⟨?_, rfl⟩
    simp [HK.out]
  · rw [if_neg h1]
    by_cases h2 : 97 ≤ n ∧ n ≤ 102
    · rw [if_pos h2]
      obtain ⟨k, hk⟩ : ∃ k, n - 97 + 10 = k := ⟨_, rfl⟩
      have a1 : (48 : Int) ≤ n := by omega
      have a2 : ¬ (n : Int) ≤ 57 := by omega
      have a3 : (97 : Int) ≤ n := by omega
      have a4 : (n : Int) ≤ 102 := by omega
      have HK : Hid ((n : Int) - 97 + 10 = k) := Lib.hid (by omega)
      dsimp only
      rw [hk]
      clear h1 h2 hk
      go_enter Tryd.func23, Tryd.ntmps23
      go_wp2_with fail
      refine bodyPost_ret (results_tmp Tryd.results23 _ _ _) rfl ⟨?_, rfl⟩
      simp [HK.out]
    · rw [if_neg h2]
      dsimp only
      by_cases h3 : n < 48
      · have a1 : ¬ (48 : Int) ≤ n := by omega
        have a3 : ¬ (97 : Int) ≤ n := by omega
        clear h1 h2 h3
        go_enter Tryd.func23, Tryd.ntmps23
        go_wp2_with fail
        exact bodyPost_ret (results_tmp Tryd.results23 _ _ _) rfl ⟨rfl, rfl⟩
      · have a1 : (48 : Int) ≤ n := by omega
        have a2 : ¬ (n : Int) ≤ 57 := by omega
        by_cases h4 : n < 97
        · have a3 : ¬ (97 : Int) ≤ n := by omega
          clear h1 h2 h3 h4
          go_enter Tryd.func23, Tryd.ntmps23
          go_wp2_with fail
          exact bodyPost_ret (results_tmp Tryd.results23 _ _ _) rfl ⟨rfl, rfl⟩
        · have a3 : (97 : Int) ≤ n := by omega
          have a4 : ¬ (n : Int) ≤ 102 := by omega
          clear h1 h2 h3 h4
          go_enter Tryd.func23, Tryd.ntmps23
          go_wp2_with fail
          exact bodyPost_ret (results_tmp Tryd.results23 _ _ _) rfl ⟨rfl, rfl⟩
end Go.Proofs.YtoeniimgbinflaaDoor
