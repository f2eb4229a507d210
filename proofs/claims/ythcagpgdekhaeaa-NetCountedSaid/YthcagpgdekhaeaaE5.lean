/- What NetCounted does: it answers true. -/
import Derived.Test.YthcagpgdekhaeaaE3
namespace Go.Proofs.Ythcagpgdekhaeaa
open Go.RowKit
theorem most_in (most : Int) : ∃ K : Int, 1 ≤ K ∧ K ≤ 64 ∧ wrap64 (1 + wrap64 ((IntKind.u64.wrap most).tmod 64)) = K := by
  obtain ⟨u, hu⟩ : ∃ u, IntKind.u64.wrap most = u := ⟨_, rfl⟩
  have h0 : 0 ≤ u := by rw [← hu, show IntKind.u64.wrap most = most % 18446744073709551616 by simp [IntKind.wrap, IntKind.bits, IntKind.signed]]; omega
  rw [hu]
  have h1 := Int.tmod_nonneg 64 h0
  have h2 := Int.tmod_lt_of_pos u (show (0 : Int) < 64 by decide)
  refine ⟨1 + u.tmod 64, by omega, by omega, ?_⟩
  unfold wrap64
  omega
theorem w64_in (n : Int) (h : -9223372036854775808 ≤ n ∧ n ≤ 9223372036854775807) : wrap64 n = n := by unfold wrap64; omega
theorem i64_in (n : Int) (h : -9223372036854775808 ≤ n ∧ n ≤ 9223372036854775807) : IntKind.i64.wrap n = n := by simp only [IntKind.wrap, IntKind.bits, IntKind.signed]; simp; omega
/-- The cells of counts in a block that a step leaves alone. -/
theorem cells47 {W : World} {q : Nat} {a0 a1 a2 a3 : Int} (h : W.heap[q]? = some (.cells #[.int .i64 a0, .int .i64 a1, .int .i64 a2, .int .i64 a3] 47 (0, 0))) :
    W.cell? ⟨q, 0, none⟩ = some (.int .i64 a0) ∧ W.cell? ⟨q, 1, none⟩ = some (.int .i64 a1) ∧ W.cell? ⟨q, 2, none⟩ = some (.int .i64 a2) ∧ W.cell? ⟨q, 3, none⟩ = some (.int .i64 a3) :=
  ⟨cell_of h 0, cell_of h 1, cell_of h 2, cell_of h 3⟩
set_option maxHeartbeats 8000000 in
theorem counted_any (most : Int) (a : Option Addr) (l : List A) (cap : Nat) (w : World) (hl : l.length ≤ maxLen) (hA : Acts w a l) : Calls Try.prog 6 #[.int .i64 most, .slice a l.length cap] w fun e w' => e = .returned (.bool true) ∧ Below w.heap.size w w' := by
  have HA := Lib.hid hA
  have HV : Hid (∀ W, Calls Try.prog 10 #[] W fun e w' => e = .returned (.bool true) ∧ Keep (fun _ => False) W w') := fun W => lives_any W
  have HLT : Hid (∀ W, Keep (fun _ => False) w W → Calls Try.prog 9 #[.slice a l.length cap] W (LightPost l W)) := fun W k => light_any a l cap W hl (hA.keep k)
  clear hA
  obtain ⟨n, hn⟩ : ∃ n, l.length = n := ⟨_, rfl⟩
  have HNL := Lib.hid hn
  rw [hn] at HLT hl ⊢
  clear hn
  unfold maxLen at hl
  obtain ⟨K, h1, h2, hK⟩ := most_in most
  have HKK := Lib.hid hK
  clear hK
  go_enter Try.func6, Try.ntmps6
  go_wp2_with fail
  rw [HKK.out]
  clear HKK
  with_reducible refine (own_new K w w none1 (Keep.refl _ _) ?hc ?ha ?hb).mono ?_
  case ha => exact h1
  case hb => exact h2
  case hc => exact fun _ h => False.elim h
  rintro e W1 ⟨nb, rfl, hn, _⟩
  have N1 := Lib.hid hn
  clear hn
  go_wp2_with (go_at_call 17; refine (duo_new N1.out h1 h2).mono ?_; rintro e W2 ⟨rb, rfl, hd⟩; have D2 := Lib.hid hd; clear hd)
  with_reducible refine (HLT.out _ ?ha).mono ?_
  case ha => exact D2.out.keep
  rintro e W3 hp
  obtain ⟨b, rfl, hb, dn, rfl⟩ := (show ∃ b : Bool, e = .returned (.bool b) ∧ (b = true → lsum l ≤ 12000) ∧ ∃ m, W3 = W2.drewN m from hp)
  have D3 : Hid (Duo w (W2.drewN dn) nb rb K st0 st0 none1) := D2.out.keep0 (Keep.drewN _ _ _)
  cases b with
  | false =>
    go_wp2_with (go_at_call 10; refine (HV.out _).mono ?_; rintro e W4 ⟨rfl, hk⟩; have KC := Lib.hid (D3.out.keep.trans hk); clear hk)
    exact bodyPost_ret (v := .bool true) (by simp [results, Try.results6, go_sem]) rfl ⟨rfl, KC.out.below (Nat.le_refl _) (fun _ h => h.elim)⟩
  | true =>
    have hlt := hb rfl
    have HSM := Lib.hid (lsum_each l hlt)
    obtain ⟨X, hX⟩ : ∃ X, W2.drewN dn = X := ⟨_, rfl⟩
    rw [hX] at D3
    clear hb hlt
    go_wp2_with fail
    clear hX
    go_loopw [36] (fun t wr => ∃ (k : Nat) (st : St), k ≤ n ∧ t = .int .i64 k ∧ Fine K st k ∧ Duo w wr nb rb K st st none1) (fun t _ => n - (intOf t).toNat)
    case atStart => exact ⟨0, st0, Nat.zero_le _, rfl, fine0 h1, D3.out⟩
    case round =>
      obtain ⟨k, st, hk, rfl, hf, hd⟩ := hrel
      have HFI := Lib.hid hf
      have HDU := Lib.hid hd
      clear hf hd
      by_cases hkn : k < n
      · obtain ⟨x, hx⟩ : ∃ x, l[k]? = some x := ⟨_, List.getElem?_eq_getElem (by rw [HNL.out]; exact hkn)⟩
        obtain ⟨⟨b0, o0, ha, c0, c1, c2, c3, c4, c5⟩, hbs, _⟩ := (HA.out.keep HDU.out.keep) k x hx
        have hxs := HSM.out.2 k x hx
        have hn0 := HSM.out.1
        rw [HNL.out] at hn0
        have HBK : Hid (k ≤ 1200) := Lib.hid (by omega)
        have HDO : Hid (∀ X' P', Duo w X' nb rb K st st P' → Calls Try.prog 18 #[.pointer (some ⟨nb, 0, none⟩), .pointer (some ⟨rb, 0, none⟩), x.v] X' (DoneDuo w nb rb K st P' X')) := fun X' P' hh => do_any k h1 h2 HFI.out (by omega) hh x (HA.out k x hx).2.1 (by omega)
        have HCN : Hid (∀ X' st', Duo w X' nb rb K st' st' none1 → Calls Try.prog 20 #[.pointer (some ⟨nb, 0, none⟩)] X' fun e w' => e = .returned (.agg #[.int .i64 st'.c0, .int .i64 st'.c1, .int .i64 st'.c2, .int .i64 st'.c3]) ∧ Keep (fun _ => False) X' w') := fun X' st' hh => by
          obtain ⟨vr, h1', _⟩ := hh
          exact (Own.counts h1' h1).mono fun e w' ⟨a, _, b⟩ => ⟨a, b⟩
        have HLN : Hid (∀ X' st', Duo w X' nb rb K st' st' none1 → Calls Try.prog 13 #[.pointer (some ⟨nb, 0, none⟩)] X' fun e w' => e = .returned (.int .i64 st'.ps.length) ∧ w' = X') := fun X' st' hh => by
          obtain ⟨vr, h1', _⟩ := hh
          exact Own.len h1' h1
        subst ha
        have hk' : (k : Int) < n := by omega
        clear hx hbs hxs hn0
        unfold A.v at HDO
        go_wp2_with fail
        obtain ⟨q, hq⟩ : ∃ q, wr.heap.size = q := ⟨_, rfl⟩
        have HQ := Lib.hid hq
        obtain ⟨X1, hX1⟩ : ∃ X1, wr.alloc (.cells #[.int .i64 x.kd, .int .i64 x.f, .slice x.da x.s.size x.cap, .int .i64 x.i, .int .i64 x.pos, .int .u8 (x.b.toNat : Int)] 30) = X1 := ⟨_, rfl⟩
        have K1 : Hid (Keep (fun _ => False) wr X1) := by rw [← hX1]; exact Keep.alloc _ _ _
        have B1 : Hid (X1.heap[q]? = some (.cells #[.int .i64 x.kd, .int .i64 x.f, .slice x.da x.s.size x.cap, .int .i64 x.i, .int .i64 x.pos, .int .u8 (x.b.toNat : Int)] 30 (0, 0))) := by rw [← hX1, ← HQ.out]; exact heap_alloc_new _ _
        rw [hX1, hq]
        clear hX1 hq c0 c1 c2 c3 c4 c5
        with_reducible refine (HCN.out _ st (HDU.out.keep0 K1.out)).mono ?_
        rintro e W4 ⟨rfl, hk4⟩
        have K4 : Hid (Keep (fun _ => False) wr W4) := K1.out.trans hk4
        have B4 := hk4.heap B1.out (fun h => h)
        clear hk4
        obtain ⟨d0, d1, d2, d3, d4, d5⟩ := (⟨cell_of B4 0, cell_of B4 1, cell_of B4 2, cell_of B4 3, cell_of B4 4, cell_of B4 5⟩ : W4.cell? ⟨q, 0, none⟩ = some (.int .i64 x.kd) ∧ W4.cell? ⟨q, 1, none⟩ = some (.int .i64 x.f) ∧ W4.cell? ⟨q, 2, none⟩ = some (.slice x.da x.s.size x.cap) ∧ W4.cell? ⟨q, 3, none⟩ = some (.int .i64 x.i) ∧ W4.cell? ⟨q, 4, none⟩ = some (.int .i64 x.pos) ∧ W4.cell? ⟨q, 5, none⟩ = some (.int .u8 (x.b.toNat : Int)))
        obtain ⟨q1, hq1⟩ : ∃ q1, W4.heap.size = q1 := ⟨_, rfl⟩
        have HQ1 := Lib.hid hq1
        have n1 : q < q1 := by rw [← hq1]; exact lt_of_block B4
        have n2 : ¬ q = q1 := by omega
        clear B4
        go_wp2_with (go_at_call 13; refine (HLN.out _ st (HDU.out.keep0 K4.out)).mono ?_; rintro e W5 ⟨rfl, rfl⟩)
        obtain ⟨X5, hX5⟩ : ∃ X5, W5.alloc (.cells #[.int .i64 st.c0, .int .i64 st.c1, .int .i64 st.c2, .int .i64 st.c3] 47) = X5 := ⟨_, rfl⟩
        have K5 : Hid (Keep (fun _ => False) wr X5) := by rw [← hX5]; exact K4.out.allocR _
        have B5 : X5.heap[q1]? = some (.cells #[.int .i64 st.c0, .int .i64 st.c1, .int .i64 st.c2, .int .i64 st.c3] 47 (0, 0)) := by rw [← hX5, ← HQ1.out]; exact heap_alloc_new _ _
        rw [hX5]
        clear hX5 d0 d1 d2 d3 d4 d5 hq1
        with_reducible refine (HDO.out _ _ (HDU.out.fresh K5.out)).mono ?_
        rintro e W6 ⟨rfl, st1, hg, hd, hk6⟩
        have HG := Lib.hid hg
        have HD6 : Hid (Duo w W6 nb rb K st1 st1 none1) := Lib.hid (hd.less (fun i hi => False.elim hi))
        have HB6 : Hid (W6.heap[q1]? = some (.cells #[.int .i64 st.c0, .int .i64 st.c1, .int .i64 st.c2, .int .i64 st.c3] 47 (0, 0))) := hk6.heap B5 (fun hc => hc (.inr ⟨by rw [HQ.out]; omega, lt_of_block B5⟩))
        clear hg hd hk6 B5 n1 n2
        go_wp2_with (go_at_call 20; refine (HCN.out _ st1 HD6.out).mono ?_; rintro e W7 ⟨rfl, hk7⟩)
        have HD7 := Lib.hid (HD6.out.keep0 hk7)
        have HB7 := hk7.heap HB6.out (fun h => h)
        have HB7' := Lib.hid HB7
        clear hk7
        obtain ⟨q2, hq2⟩ : ∃ q2, W7.heap.size = q2 := ⟨_, rfl⟩
        have HQ2 := Lib.hid hq2
        have n1 : q1 < q2 := by rw [← hq2]; exact lt_of_block HB7
        clear HB7
        obtain ⟨X8, hX8⟩ : ∃ X8, W7.alloc (.cells #[.int .i64 st1.c0, .int .i64 st1.c1, .int .i64 st1.c2, .int .i64 st1.c3] 47) = X8 := ⟨_, rfl⟩
        have K8 : Keep (fun _ => False) W7 X8 := by rw [← hX8]; exact Keep.alloc _ _ _
        have HD8 := Lib.hid (HD7.out.keep0 K8)
        have B8 := cells47 (K8.heap HB7'.out (fun h => h))
        have C8 : X8.heap[q2]? = some (.cells #[.int .i64 st1.c0, .int .i64 st1.c1, .int .i64 st1.c2, .int .i64 st1.c3] 47 (0, 0)) := by rw [← hX8, ← hq2]; exact heap_alloc_new _ _
        have c8 := lt_of_block C8
        obtain ⟨e0, e1, e2, e3⟩ := cells47 C8
        obtain ⟨b0', b1', b2', b3'⟩ := B8
        rw [hX8, hq2]
        clear hX8 hq2 C8 K8
        have hfi := HFI.out.goes HG.out
        have hcs := hfi.cs
        have hbl := hfi.bal
        have hln := hfi.len
        have hbk := HBK.out
        obtain ⟨m, hm⟩ : ∃ m, st1.ps.length = m := ⟨_, rfl⟩
        have HMM := Lib.hid hm
        rw [hm] at hbl hln
        have w1 : IntKind.i64.wrap (st1.c0 + st1.c3) = st1.c0 + st1.c3 := i64_in _ (by omega)
        have w2 : IntKind.i64.wrap (st1.c1 + st1.c2) = st1.c1 + st1.c2 := i64_in _ (by omega)
        have w3 : IntKind.i64.wrap (st1.c1 + st1.c2 + m) = st1.c0 + st1.c3 := by rw [i64_in _ (by omega)]; omega
        have w4 : ¬ K < (m : Int) := by omega
        have HLN8 : Hid (∀ X', Keep (fun _ => False) X8 X' → Calls Try.prog 13 #[.pointer (some ⟨nb, 0, none⟩)] X' fun e w' => e = .returned (.int .i64 m) ∧ Keep (fun _ => False) X' w') := fun X' k => (HLN.out _ st1 (HD8.out.keep0 k)).mono fun e w' ⟨a, b⟩ => ⟨by rw [a, HMM.out], by subst b; exact Keep.refl _ _⟩
        clear hcs hbl hln hbk hm hfi
        have hRl := (Later.rules X8).1
        have hq1 : q1 < X8.heap.size := by omega
        refine wp_region_later (by kernel_rfl) (by kernel_rfl) ?_
        repeat (refine wpQuiet_step (fun K hK => ?_); go_simp; first | (refine hK _ ?_; clear hK K) | (apply Exists.intro; refine ⟨fun g => ?_, hK _ ?_⟩; (go_at_call 13; exact Later.call (HLN8.out _ g.keep)); clear hK K))
        refine wpQuiet_nil ?_
        intro X9 hX0
        obtain ⟨g0, hX⟩ := hX0
        have KX : Hid (Keep (fun _ => False) X8 X9) := hX ▸ g0.keep
        have g0' : X9.cell? ⟨q2, 0, none⟩ = some (.int .i64 st1.c0) := (KX.out.rules.1 q2 0 c8).trans e0
        have g1' : X9.cell? ⟨q2, 1, none⟩ = some (.int .i64 st1.c1) := (KX.out.rules.1 q2 1 c8).trans e1
        have g2' : X9.cell? ⟨q2, 2, none⟩ = some (.int .i64 st1.c2) := (KX.out.rules.1 q2 2 c8).trans e2
        have g3' : X9.cell? ⟨q2, 3, none⟩ = some (.int .i64 st1.c3) := (KX.out.rules.1 q2 3 c8).trans e3
        have f0' : X9.cell? ⟨q1, 0, none⟩ = some (.int .i64 st.c0) := (KX.out.rules.1 q1 0 hq1).trans b0'
        have f1' : X9.cell? ⟨q1, 1, none⟩ = some (.int .i64 st.c1) := (KX.out.rules.1 q1 1 hq1).trans b1'
        have f2' : X9.cell? ⟨q1, 2, none⟩ = some (.int .i64 st.c2) := (KX.out.rules.1 q1 2 hq1).trans b2'
        have f3' : X9.cell? ⟨q1, 3, none⟩ = some (.int .i64 st.c3) := (KX.out.rules.1 q1 3 hq1).trans b3'
        clear hX e0 e1 e2 e3 b0' b1' b2' b3' hRl c8 hq1 n1 w1 w2 w3
        have HD9 := Lib.hid (HD8.out.keep0 KX.out)
        have H47 := fun w => equalIn47 9998 st1.c0 st1.c1 st1.c2 st1.c3 st.c0 st.c1 st.c2 st.c3 w
        obtain ⟨m0, hm0⟩ : ∃ m0, st.ps.length = m0 := ⟨_, rfl⟩
        rw [hm0]
        by_cases hc : st1.c0 = st.c0 ∧ st1.c1 = st.c1 ∧ st1.c2 = st.c2 ∧ st1.c3 = st.c3
        · have hid := HG.out.idle hc.1 hc.2.1 hc.2.2.1 hc.2.2.2
          obtain rfl : m = m0 := by rw [← HMM.out, ← hm0, hid]
          simp only [hc, and_self, decide_true] at H47
          clear hid hm0
          go_wp2_with (go_at_call 13; refine (HLN.out _ st1 HD9.out).mono ?_; rintro e W5 ⟨rfl, rfl⟩; rw [HMM.out])
          exact ⟨⟨k + 1, st1, by omega, by go_num, HFI.out.goes HG.out, HD9.out⟩, by simp [intOf]; omega⟩
        · simp only [decide_eq_false hc] at H47
          clear hc hm0
          go_wp2_with fail
          exact ⟨⟨k + 1, st1, by omega, by go_num, HFI.out.goes HG.out, HD9.out⟩, by simp [intOf]; omega⟩
      · have hkm : k = n := by omega
        subst hkm
        go_wp2_with (go_at_call 10; refine (HV.out _).mono ?_; rintro e W4 ⟨rfl, hk⟩; have KC := Lib.hid (HDU.out.keep.trans hk); clear hk)
        exact bodyPost_ret (v := .bool true) (by simp [results, Try.results6, go_sem]) rfl ⟨rfl, KC.out.below (Nat.le_refl _) (fun _ h => h.elim)⟩
theorem counted_open (most : Int) (a : Option Addr) (n cap : Nat) (w : World) (hl : n ≤ maxLen) (h : ∃ l : List A, n = l.length ∧ Acts w a l) : Calls Try.prog 6 #[.int .i64 most, .slice a n cap] w fun e w' => e = .returned (.bool true) ∧ Below w.heap.size w w' := by
  obtain ⟨l, rfl, hA⟩ := h
  exact counted_any most a l cap w hl hA
end Go.Proofs.Ythcagpgdekhaeaa
