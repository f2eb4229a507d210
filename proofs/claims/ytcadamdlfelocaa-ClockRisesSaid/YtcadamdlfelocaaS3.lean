/- The next stamp of the reference, walked. -/
import Derived.Test.YtcadamdlfelocaaS2
namespace Go.Proofs.Ytcadamdlfelocaa
open Go.RowKit
set_option maxHeartbeats 1000000 in
theorem rnext_any (x : St) (now site : Int) (w : World) :
    Calls Try.prog 26 #[x.v, .int .i64 now, .int .i64 site] w fun e w' => e = .returned (.tuple #[(x.next now site).1.v, .int .i64 (x.next now site).2]) ∧ Keep (fun _ => False) w w' := by
  obtain ⟨M, hM, hM2⟩ : ∃ M, (if 1099511627776 < now then 1099511627776 else now) = M ∧ M = min now 1099511627776 := ⟨_, rfl, by omega⟩
  have hM1 : M ≤ 1099511627776 := by omega
  by_cases hs : site = 1 ∨ site = 2
  · by_cases hg : x.good = true
    · have hb : 0 ≤ x.n ∧ x.n ≤ 281474976710656 := by simp [St.good] at hg; omega
      have hn0 : 1 ≤ x.nextN now := by unfold St.nextN; omega
      have HG : Hid (((St.mk (x.nextN now) site).good = decide (x.nextN now ≤ 281474976710656))) := by
        simp only [Hid, St.good, decide_eq_decide]
        omega
      obtain ⟨hb1, hb2⟩ := hb
      obtain ⟨n, s⟩ := x
      dsimp only at hb1 hb2
      obtain ⟨N, hN, hNN⟩ : ∃ N, (if n + 1 < M then M else n + 1) = N ∧ N = (St.mk n s).nextN now := ⟨_, rfl, by unfold St.nextN; dsimp only; omega⟩
      have hN1 : N ≤ 281474976710657 := by omega
      rw [← hNN] at HG hn0
      have HS := Lib.hid hs
      have HX := Lib.hid hg
      have HM := Lib.hid hM2
      clear hM2
      by_cases hn : N ≤ 281474976710656
      · have he : (St.mk n s).next now site = (⟨N, site⟩, 0) := by unfold St.next; rw [if_pos ⟨hs, hg⟩, ← hNN, if_pos hn]
        rw [he]
        have HG' : Hid ((St.mk N site).good = true) := by rw [Hid, HG.out]; simpa using hn
        clear he hs hg hNN HG
        unfold St.v
        rcases HS.out with rfl | rfl
        all_goals
          go_enter Try.func26, Try.ntmps26
          go_wp2_with (first
            | (go_at_call_of 23 (Value.agg #[Value.int IntKind.i64 n, Value.int IntKind.i64 s]); refine (rgood_yes _ _ HX.out _).mono ?_; rintro e w1 ⟨rfl, hk⟩; have HK1 := hk; obtain ⟨hc, hf⟩ := hk.rules; have hz := hk.size; simp at hz; have hz1 : w.heap.size < w1.heap.size := (by omega); have hz2 : w.heap.size + 1 < w1.heap.size := (by omega); clear hk)
  )
          exact bodyPost_ret (v := .tuple #[.agg #[.int .i64 N, .int .i64 _], .int .i64 0]) (by simp [results, Try.results26, go_sem, *]) rfl
            ⟨rfl, by repeat (first | exact Keep.refl _ _ | assumption | refine Keep.trans ?_ (by assumption) | refine Keep.allocR ?_ _ | refine Keep.drewNR ?_ _ | refine Keep.setNew ?_ (by simp) _)⟩
      · have he : (St.mk n s).next now site = (⟨0, 0⟩, 50) := by unfold St.next; rw [if_pos ⟨hs, hg⟩, ← hNN, if_neg hn]
        rw [he]
        have HG' : Hid ((St.mk N site).good = false) := by rw [Hid, HG.out]; simp only [hn, decide_false]
        clear he hs hg hNN HG
        unfold St.v
        rcases HS.out with rfl | rfl
        all_goals
          go_enter Try.func26, Try.ntmps26
          go_wp2_with (first
            | (go_at_call_of 23 (Value.agg #[Value.int IntKind.i64 n, Value.int IntKind.i64 s]); refine (rgood_yes _ _ HX.out _).mono ?_; rintro e w1 ⟨rfl, hk⟩; have HK1 := hk; obtain ⟨hc, hf⟩ := hk.rules; have hz := hk.size; simp at hz; have hz1 : w.heap.size < w1.heap.size := (by omega); have hz2 : w.heap.size + 1 < w1.heap.size := (by omega); clear hk)
  )
          exact bodyPost_ret (v := .tuple #[.agg #[.int .i64 0, .int .i64 0], .int .i64 50]) (by simp [results, Try.results26, go_sem, *]) rfl
            ⟨rfl, by repeat (first | exact Keep.refl _ _ | assumption | refine Keep.trans ?_ (by assumption) | refine Keep.allocR ?_ _ | refine Keep.drewNR ?_ _ | refine Keep.setNew ?_ (by simp) _)⟩
    · have he : x.next now site = (⟨0, 0⟩, 2) := by unfold St.next; rw [if_neg (fun h => hg h.2)]
      rw [he]
      have hg' : x.good = false := by simpa using hg
      have HX := Lib.hid hg'
      have HS := Lib.hid hs
      clear he hs hg hg' hM hM1 hM2
      obtain ⟨n, s⟩ := x
      unfold St.v
      rcases HS.out with rfl | rfl
      all_goals
        go_enter Try.func26, Try.ntmps26
        go_wp2_with (first
            | (go_at_call_of 23 (Value.agg #[Value.int IntKind.i64 n, Value.int IntKind.i64 s]); refine (rgood_no _ _ HX.out _).mono ?_; rintro e w1 ⟨rfl, hk⟩; have HK1 := hk; obtain ⟨hc, hf⟩ := hk.rules; have hz := hk.size; simp at hz; have hz1 : w.heap.size < w1.heap.size := (by omega); have hz2 : w.heap.size + 1 < w1.heap.size := (by omega); clear hk))
        exact bodyPost_ret (v := .tuple #[.agg #[.int .i64 0, .int .i64 0], .int .i64 2]) (by simp [results, Try.results26, go_sem, *]) rfl
          ⟨rfl, by repeat (first | exact Keep.refl _ _ | assumption | refine Keep.trans ?_ (by assumption) | refine Keep.allocR ?_ _ | refine Keep.drewNR ?_ _ | refine Keep.setNew ?_ (by simp) _)⟩
  · have he : x.next now site = (⟨0, 0⟩, 2) := by unfold St.next; rw [if_neg (fun h => hs h.1)]
    rw [he]
    have HS := Lib.hid hs
    have hs1 : (site != 1) = true := by simp; intro h; exact hs (.inl h)
    have hs2 : (site != 2) = true := by simp; intro h; exact hs (.inr h)
    clear he hs hM hM1 hM2
    obtain ⟨n, s⟩ := x
    unfold St.v
    go_enter Try.func26, Try.ntmps26
    go_wp2
    exact bodyPost_ret (v := .tuple #[.agg #[.int .i64 0, .int .i64 0], .int .i64 2]) (by simp [results, Try.results26, go_sem]) rfl
      ⟨rfl, by repeat (first | exact Keep.refl _ _ | assumption | refine Keep.trans ?_ (by assumption) | refine Keep.allocR ?_ _ | refine Keep.drewNR ?_ _ | refine Keep.setNew ?_ (by simp) _)⟩
end Go.Proofs.Ytcadamdlfelocaa
