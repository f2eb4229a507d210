/- Whether both nets hold the same. -/
import Derived.Test.YthcagpgdekhaeaaD9
namespace Go.Proofs.Ythcagpgdekhaeaa
open Go.RowKit
set_option maxHeartbeats 4000000 in
theorem same_any {w W : World} {nb rb : Nat} {most : Int} {st : St} {P : Nat → Prop} (h : Duo w W nb rb most st st P) (hm : 1 ≤ most) : Calls Try.prog 19 #[.pointer (some ⟨nb, 0, none⟩), .pointer (some ⟨rb, 0, none⟩)] W fun e w' => e = .returned (.bool true) ∧ Keep (fun _ => False) W w' := by
  have HLN : Hid (∀ X, Keep (fun _ => False) W X → Calls Try.prog 13 #[.pointer (some ⟨nb, 0, none⟩)] X fun e w' => e = .returned (.int .i64 st.ps.length) ∧ Keep (fun _ => False) X w') := fun X k => by
    obtain ⟨vr, h1, _⟩ := h.keep0 k
    exact (Own.len h1 hm).mono fun e w' ⟨a, b⟩ => ⟨a, by subst b; exact Keep.refl _ _⟩
  have HCN : Hid (∀ X, Keep (fun _ => False) W X → Calls Try.prog 20 #[.pointer (some ⟨nb, 0, none⟩)] X fun e w' => e = .returned (.agg #[.int .i64 st.c0, .int .i64 st.c1, .int .i64 st.c2, .int .i64 st.c3]) ∧ Keep (fun _ => False) X w') := fun X k => by
    obtain ⟨vr, h1, _⟩ := h.keep0 k
    exact (Own.counts h1 hm).mono fun e w' ⟨a, _, b⟩ => ⟨a, b⟩
  have HLK : Hid (∀ (X : World) (k : Nat) (f : Int) (s : ByteArray), Keep (fun _ => False) W X → st.ps[k]? = some (f, s) → Calls Try.prog 16 #[.pointer (some ⟨nb, 0, none⟩), .int .i64 k] X fun e w' => e = .returned (.tuple #[.agg #[.int .i64 f, .string s], .int .i64 0]) ∧ Keep (fun _ => False) X w') := fun X k f s kk hk => by
    obtain ⟨vr, h1, _⟩ := h.keep0 kk
    exact (Own.look_ok h1 k f s hm hk).mono fun e w' ⟨a, _, b⟩ => ⟨a, b⟩
  obtain ⟨vr, _, hr, _, _⟩ := h
  have HR : Hid (RefAt W rb w.heap.size most vr st.ps st.c0 st.c1 st.c2 st.c3) := hr
  obtain ⟨av, cv, rfl, h1, h2⟩ := RefAt.slice hr
  unfold maxLen at h2
  have H47 := fun w => equalIn47 9998 st.c0 st.c1 st.c2 st.c3 st.c0 st.c1 st.c2 st.c3 w
  simp only [and_self, decide_true] at H47
  have hB := hr.block
  have d1 : W.cell? ⟨rb, 1, none⟩ = some (.slice av st.ps.length cv) := cell_of hB 1
  have d2 : W.cell? ⟨rb, 2, none⟩ = some (.int .i64 st.c0) := cell_of hB 2
  have d3 : W.cell? ⟨rb, 3, none⟩ = some (.int .i64 st.c1) := cell_of hB 3
  have d4 : W.cell? ⟨rb, 4, none⟩ = some (.int .i64 st.c2) := cell_of hB 4
  have d5 : W.cell? ⟨rb, 5, none⟩ = some (.int .i64 st.c3) := cell_of hB 5
  have hrb : rb < W.heap.size := lt_of_block hB
  clear hr hB
  obtain ⟨m, hM⟩ : ∃ m, st.ps.length = m := ⟨_, rfl⟩
  have HM := Lib.hid hM
  rw [hM] at HLN d1 h1
  clear hM
  have hRl := (Later.rules W).1
  go_enter Try.func19, Try.ntmps19
  go_wp2_with fail
  refine wp_region_later (by kernel_rfl) (by kernel_rfl) ?_
  repeat (refine wpQuiet_step (fun K hK => ?_); go_simp; first | (refine hK _ ?_; clear hK K) | (apply Exists.intro; refine ⟨fun g => ?_, hK _ ?_⟩; (first | (go_at_call 13; exact Later.call (HLN.out _ g.keep)) | (go_at_call 20; exact Later.call (HCN.out _ g.keep))); clear hK K))
  refine wpQuiet_nil ?_
  intro X hX0
  obtain ⟨g0, hX⟩ := hX0
  have KX : Hid (Keep (fun _ => False) W X) := hX ▸ g0.keep
  have x1 : X.cell? ⟨rb, 1, none⟩ = some (.slice av m cv) := (KX.out.rules.1 rb 1 hrb).trans d1
  have HD1 := Lib.hid d1
  clear hX d1 d2 d3 d4 d5 hRl H47
  go_wp2_with fail
  clear x1
  go_loopw [30] (fun t wr => ∃ k : Nat, k ≤ m ∧ t = .int .i64 k ∧ Keep (fun _ => False) W wr) (fun t _ => m - (intOf t).toNat)
  case atStart => exact ⟨0, Nat.zero_le _, rfl, KX.out⟩
  case round =>
    obtain ⟨k, hk, rfl, kw⟩ := hrel
    have KW := Lib.hid kw
    clear kw
    by_cases hlt : k < m
    · obtain ⟨⟨f, s⟩, hp⟩ : ∃ p, st.ps[k]? = some p := ⟨_, List.getElem?_eq_getElem (by rw [HM.out]; exact hlt)⟩
      have HPk := Lib.hid hp
      clear hp
      have hlt' : (k : Int) < m := by omega
      go_wp2_with (go_at_call 16; refine (HLK.out _ k f s KW.out HPk.out).mono ?_; rintro e W1 ⟨rfl, hk'⟩; have K1 : Hid (Keep (fun _ => False) W W1) := KW.out.trans hk'; clear hk'; obtain ⟨q, hq⟩ : ∃ q, W1.heap.size = q := ⟨_, rfl⟩; have HQ := Lib.hid hq)
      obtain ⟨X2, hX2⟩ : ∃ X2, W1.alloc (.cells #[.int .i64 f, .string s] 34) = X2 := ⟨_, rfl⟩
      have K2 : Hid (Keep (fun _ => False) W X2) := by rw [← hX2]; exact K1.out.allocR _
      have b2 : X2.heap[q]? = some (.cells #[.int .i64 f, .string s] 34 (0, 0)) := by rw [← hX2, ← HQ.out]; exact heap_alloc_new _ _
      have q0 : X2.cell? ⟨q, 0, none⟩ = some (.int .i64 f) := cell_of b2 0
      have q1 : X2.cell? ⟨q, 1, none⟩ = some (.string s) := cell_of b2 1
      obtain ⟨g, hg, _, _, p0, p1⟩ := (HR.out.keep0 K2.out).packet k (f, s) HPk.out
      dsimp only at p0 p1
      have x1 : X2.cell? ⟨rb, 1, none⟩ = some (.slice av m cv) := (K2.out.rules.1 rb 1 hrb).trans HD1.out
      rw [hg] at x1
      have H34 := fun w => equalIn34 9998 f f s s w
      simp only [and_self, decide_true] at H34
      rw [hX2]
      clear hX2 b2 hq hg
      go_quiet (fail)
      go_wp2_with fail
      go_roundw
      case rel => exact ⟨k + 1, by omega, by go_num, K2.out.drewNR _⟩
      case measure => simp [intOf]; omega
    · have hkm : k = m := by omega
      subst hkm
      go_wp2_with fail
      exact bodyPost_ret (v := .bool true) (by simp [results, Try.results19, go_sem]) rfl ⟨rfl, KW.out⟩
end Go.Proofs.Ythcagpgdekhaeaa
