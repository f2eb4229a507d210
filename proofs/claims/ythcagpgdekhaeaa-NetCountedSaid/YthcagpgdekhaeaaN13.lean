/- How many acts are looked at, walked. -/
import Derived.Test.YthcagpgdekhaeaaN12
import Derived.LoopTactic
namespace Go.Proofs.Ythcagpgdekhaeaa
open Go.RowKit
def addS (n m : Nat) : Nat := if 12000 < n ∨ 12000 < m ∨ 12000 < n + m then 12001 else n + m
theorem add_c (n m : Nat) (w : World) (hn : n ≤ 12001) (hm : m ≤ maxLen) : Calls Try.prog 22 #[.int .i64 n, .int .i64 m, .int .i64 12000] w fun e w' => e = .returned (.int .i64 (addS n m : Nat)) ∧ w' = w := by
  unfold maxLen at hm
  have ha : Hid (addS n m = if 12000 < n ∨ 12000 < m ∨ 12000 < n + m then 12001 else n + m) := rfl
  by_cases h1 : (12000 : Int) < n
  · go_enter Try.func22, Try.ntmps22
    go_wp2
    go_ret
    exact ⟨by rw [ha.out, if_pos (by omega)]; rfl, rfl⟩
  · by_cases h2 : (12000 : Int) < m
    · go_enter Try.func22, Try.ntmps22
      go_wp2
      go_ret
      exact ⟨by rw [ha.out, if_pos (by omega)]; rfl, rfl⟩
    · by_cases h3 : (12000 : Int) - m < n
      · go_enter Try.func22, Try.ntmps22
        go_wp2
        go_ret
        exact ⟨by rw [ha.out, if_pos (by omega)]; rfl, rfl⟩
      · go_enter Try.func22, Try.ntmps22
        go_wp2
        go_ret
        exact ⟨by rw [ha.out, if_neg (by omega)]; congr 2, rfl⟩
def lt (l : List A) : Nat → Nat
  | 0 => 0
  | k + 1 => addS (addS (lt l k) 10) ((l[k]?.map (fun x => x.s.size)).getD 0)
theorem addS_le (n m : Nat) : addS n m ≤ 12001 := by unfold addS; split <;> omega
theorem lt_le (l : List A) (k : Nat) : lt l k ≤ 12001 := by
  cases k with
  | zero => simp [lt]
  | succ k => exact addS_le _ _
def lsum (l : List A) : Nat := (l.map fun x => 10 + x.s.size).sum
theorem addS_sum {n m : Nat} (h : addS n m ≤ 12000) : addS n m = n + m := by
  by_cases hc : 12000 < n ∨ 12000 < m ∨ 12000 < n + m
  · rw [addS, if_pos hc] at h; omega
  · rw [addS, if_neg hc]
theorem addS_small {n m : Nat} (h : addS n m ≤ 12000) : n ≤ 12000 := by
  have := addS_sum h
  omega
theorem lt_succ (l : List A) (k : Nat) : lt l (k + 1) = addS (addS (lt l k) 10) ((l[k]?.map (fun x => x.s.size)).getD 0) := rfl
theorem lt_sum (l : List A) : ∀ k, k ≤ l.length → lt l k ≤ 12000 → lt l k = lsum (l.take k)
  | 0, _, _ => by simp [lt, lsum]
  | k + 1, hk, h => by
    have hs : lt l (k + 1) = addS (addS (lt l k) 10) ((l[k]?.map (fun x => x.s.size)).getD 0) := rfl
    rw [List.getElem?_eq_getElem (by omega)] at hs
    simp only [Option.map_some, Option.getD_some] at hs
    rw [hs] at h ⊢
    have h1 : addS (lt l k) 10 ≤ 12000 := addS_small h
    have h2 : lt l k ≤ 12000 := addS_small h1
    have ih := lt_sum l k (by omega) h2
    have e1 := addS_sum h1
    have e2 := addS_sum h
    rw [e2, e1, ih, List.take_succ_eq_append_getElem (by omega)]
    simp only [lsum, List.map_append, List.map_cons, List.map_nil, List.sum_append, List.sum_cons, List.sum_nil]
    omega
def LightPost (l : List A) (w : World) (e : Ending) (w' : World) : Prop := ∃ b : Bool, e = .returned (.bool b) ∧ (b = true → lsum l ≤ 12000) ∧ ∃ m, w' = w.drewN m
set_option maxHeartbeats 1000000 in
theorem light_any (a : Option Addr) (l : List A) (cap : Nat) (w : World) (hl : l.length ≤ maxLen) (hA : Acts w a l) : Calls Try.prog 9 #[.slice a l.length cap] w (LightPost l w) := by
  have HA := Lib.hid hA
  clear hA
  have HS := Lib.hid (lt_sum l)
  unfold maxLen at hl
  obtain ⟨n, hn⟩ : ∃ n, n = l.length := ⟨_, rfl⟩
  have HN := Lib.hid hn
  rw [← hn] at hl ⊢
  clear hn
  go_enter Try.func9, Try.ntmps9
  go_wp2_with fail
  go_loopw [3, 4] (fun t i wr => ∃ k : Nat, k ≤ n ∧ i = .int .i64 k ∧ t = .int .i64 (lt l k : Nat) ∧ ∃ m, wr = w.drewN m) (fun _ i _ => n - (intOf i).toNat)
  case atStart => exact ⟨0, Nat.zero_le _, rfl, rfl, 0, rfl⟩
  case round =>
    obtain ⟨k, hk, rfl, rfl, m, hm⟩ := hrel
    have HM := Lib.hid hm
    clear hm
    have hb := lt_le l k
    by_cases hlt : k < n
    · by_cases hle : (lt l k : Int) ≤ 12000
      · obtain ⟨x, hx⟩ : ∃ x, l[k]? = some x := ⟨_, List.getElem?_eq_getElem (by rw [← HN.out]; exact hlt)⟩
        obtain ⟨⟨b, o, rfl, _, _, h2', _⟩, _, hsz⟩ := HA.out k x hx
        have h2 : wr.cell? ⟨b, o + k * 6 + 2, none⟩ = some (.slice x.da x.s.size x.cap) := by rw [HM.out]; exact h2'
        clear h2'
        have HX : Hid (lt l (k + 1) = addS (addS (lt l k) 10) x.s.size) := by show _ = _; rw [lt_succ, hx]; rfl
        clear hx
        have hb2 := addS_le (lt l k) 10
        unfold maxLen at hsz
        have C1 : Hid (∀ W, Calls Try.prog 22 #[.int .i64 (lt l k : Nat), .int .i64 10, .int .i64 12000] W fun e w' => e = .returned (.int .i64 (addS (lt l k) 10 : Nat)) ∧ w' = W) := fun W => add_c (lt l k) 10 W hb (by unfold maxLen; omega)
        have C2 : Hid (∀ W, Calls Try.prog 22 #[.int .i64 (addS (lt l k) 10 : Nat), .int .i64 x.s.size, .int .i64 12000] W fun e w' => e = .returned (.int .i64 (addS (addS (lt l k) 10) x.s.size : Nat)) ∧ w' = W) := fun W => add_c _ _ W hb2 hsz
        generalize addS (addS (lt l k) 10) x.s.size = q2 at *
        generalize addS (lt l k) 10 = q1 at *
        generalize hq : lt l k = q0 at *
        clear hq
        go_wp2_with fail
        go_quiet ((first | (go_at_call 22; with_reducible refine Calls.quiet_of_same (C1.out _)) | (go_at_call 22; with_reducible refine Calls.quiet_of_same (C2.out _))))
        go_wp2_with fail
        go_roundw
        case rel => exact ⟨k + 1, by omega, by go_num, by rw [HX.out], _, by rw [HM.out]; exact World.drewN_drewN _ _ _⟩
        case measure => simp [intOf]; omega
      · go_wp2_with fail
        go_ret
        show ∃ b : Bool, _ ∧ _ ∧ _
        exact ⟨_, rfl, fun h => by simp at h, _, HM.out⟩
    · have hkn : k = n := by omega
      subst hkn
      go_wp2_with fail
      go_ret
      show ∃ b : Bool, _ ∧ _ ∧ _
      refine ⟨_, rfl, fun h => ?_, _, HM.out⟩
      have h0 : ((lt l k : Nat) : Int) ≤ 12000 := by simpa using h
      have h1 : lt l k ≤ 12000 := by omega
      have h2 := HS.out k (by rw [← HN.out]; exact Nat.le_refl _) h1
      rw [HN.out, List.take_length] at h2
      rw [← h2, ← HN.out]
      exact h1
end Go.Proofs.Ythcagpgdekhaeaa
