/- One act, done to both nets in an order that is drawn. -/
import Derived.Test.YthcagpgdekhaeaaD3
import Derived.Deep.RegionHeld3
namespace Go.Proofs.Ythcagpgdekhaeaa
open Go.RowKit
set_option maxHeartbeats 2000000 in
theorem do_turn {w W : World} {nb rb : Nat} {most : Int} {st : St} {P : Nat → Prop} (n : Nat) (hm : 1 ≤ most) (h64 : most ≤ 64) (hf : Fine most st n) (h : Duo w W nb rb most st st P) (x : A) (hk : x.kd = 4) : Calls Try.prog 18 #[.pointer (some ⟨nb, 0, none⟩), .pointer (some ⟨rb, 0, none⟩), x.v] W (DoneDuo w nb rb most st P W) := by
  obtain ⟨v, st1, hg, hnet, href⟩ := op_turn most st n hm h64 hf x.i x.pos x.b
  have HG := Lib.hid hg
  obtain ⟨xkd, xf, xda, xcap, xs, xi, xpos, xb⟩ := x
  unfold A.v
  dsimp only at hnet href ⊢
  subst hk
  obtain ⟨q, hq⟩ : ∃ q, W.heap.size = q := ⟨_, rfl⟩
  obtain ⟨X, hX⟩ : ∃ X, W.alloc (.cells #[.int .i64 4, .int .i64 xf, .slice xda xs.size xcap, .int .i64 xi, .int .i64 xpos, .int .u8 (xb.toNat : Int)] 30) = X := ⟨_, rfl⟩
  have KX : Keep (fun _ => False) W X := by rw [← hX]; exact Keep.alloc _ _ _
  have BX : X.heap[q]? = some (.cells #[.int .i64 4, .int .i64 xf, .slice xda xs.size xcap, .int .i64 xi, .int .i64 xpos, .int .u8 (xb.toNat : Int)] 30 (0, 0)) := by rw [← hX, ← hq]; exact heap_alloc_new _ _
  have hqX : q < X.heap.size := lt_of_block BX
  have HD0 : Duo w X nb rb most st st (fun i => P i ∨ i = q) := (h.fresh KX).less (fun i hi => hi.imp id (fun e => by subst e; exact ⟨Nat.le_of_eq hq, hqX⟩))
  have HN : Hid (∀ X', Keep (fun _ => False) X X' → Calls Try.prog 15 #[.pointer (some ⟨nb, 0, none⟩), .int .i64 xi, .int .i64 xpos, .int .u8 (xb.toNat : Int)] X' fun e w' => e = .returned (.int .i64 v) ∧ Duo w w' nb rb most st1 st (fun i => P i ∨ i = q) ∧ Keep (fun i => ¬ (P i ∨ i = q)) X w' ∧ w'.cell? ⟨q, 3, none⟩ = some (.int .i64 xi) ∧ w'.cell? ⟨q, 4, none⟩ = some (.int .i64 xpos) ∧ w'.cell? ⟨q, 5, none⟩ = some (.int .u8 (xb.toNat : Int))) :=
    fun X' k => ((HD0.keep0 k).net (fun P' ho => hnet w X' nb P' ho)).mono fun e w' ⟨he, hd, hk⟩ => ⟨he, hd, (keepN k).trans hk, cell_of (((keepN k).trans hk : Keep (fun i => ¬ (P i ∨ i = q)) X w').heap BX (fun hc => hc (.inr rfl))) 3, cell_of (((keepN k).trans hk : Keep (fun i => ¬ (P i ∨ i = q)) X w').heap BX (fun hc => hc (.inr rfl))) 4, cell_of (((keepN k).trans hk : Keep (fun i => ¬ (P i ∨ i = q)) X w').heap BX (fun hc => hc (.inr rfl))) 5⟩
  have HF : Hid (∀ W1, Duo w W1 nb rb most st1 st (fun i => P i ∨ i = q) → Keep (fun i => ¬ (P i ∨ i = q)) X W1 → Calls Try.prog 34 #[.pointer (some ⟨rb, 0, none⟩), .int .i64 xi, .int .i64 xpos, .int .u8 (xb.toNat : Int)] W1 fun e w' => e = .returned (.int .i64 v) ∧ Duo w w' nb rb most st1 st1 (fun i => P i ∨ i = q) ∧ Keep (fun i => ¬ (P i ∨ i = q)) X w' ∧ w'.cell? ⟨q, 3, none⟩ = some (.int .i64 xi) ∧ w'.cell? ⟨q, 4, none⟩ = some (.int .i64 xpos) ∧ w'.cell? ⟨q, 5, none⟩ = some (.int .u8 (xb.toNat : Int))) :=
    fun W1 hd k => (hd.ref (fun vr hr hb => href W1 rb w.heap.size vr hr hb)).mono fun e w' ⟨he, hd, hk⟩ => ⟨he, hd, k.trans hk, cell_of ((k.trans hk).heap BX (fun hc => hc (.inr rfl))) 3, cell_of ((k.trans hk).heap BX (fun hc => hc (.inr rfl))) 4, cell_of ((k.trans hk).heap BX (fun hc => hc (.inr rfl))) 5⟩
  have HXK := Lib.hid KX
  have SX : Hid (X.cell? ⟨q, 3, none⟩ = some (.int .i64 xi) ∧ X.cell? ⟨q, 4, none⟩ = some (.int .i64 xpos) ∧ X.cell? ⟨q, 5, none⟩ = some (.int .u8 (xb.toNat : Int))) := ⟨cell_of BX 3, cell_of BX 4, cell_of BX 5⟩
  have d0 : X.cell? ⟨q, 0, none⟩ = some (.int .i64 4) := cell_of BX 0
  clear hnet href hg h hf HD0 KX BX
  go_enter Try.func18, Try.ntmps18
  go_wp2_with fail
  clear hX hq d0
  have SX0 := SX.out
  go_region_held3 (fun W' => W'.cell? ⟨q, 3, none⟩ = some (.int .i64 xi) ∧ W'.cell? ⟨q, 4, none⟩ = some (.int .i64 xpos) ∧ W'.cell? ⟨q, 5, none⟩ = some (.int .u8 (xb.toNat : Int))) (first | assumption | exact SX.out) (first | (go_at_call 15; refine (HN.out _ ?_).mono ?_; (· first | exact Keep.refl _ _ | exact Keep.drewN _ _ _); rintro e W1 ⟨rfl, hd, hk', hc⟩; have HD := Lib.hid hd; have K1 := Lib.hid hk'; clear hd hk') | (go_at_call 34; refine (HF.out _ HD.out K1.out).mono ?_; rintro e W3 ⟨rfl, hd, hk', hc3⟩; have HD2 := Lib.hid hd; have K2 := Lib.hid hk'; clear hd hk'))
  go_wp2_with fail
  refine bodyPost_ret (v := .bool true) (by simp [results, Try.results18, go_sem]) rfl ⟨rfl, st1, HG.out, HD2.out.less (fun i hi => .inl hi), ?_⟩
  exact (keepN HXK.out).trans (K2.out.mono (fun i hi hp => hi (.inl hp)))
end Go.Proofs.Ythcagpgdekhaeaa
