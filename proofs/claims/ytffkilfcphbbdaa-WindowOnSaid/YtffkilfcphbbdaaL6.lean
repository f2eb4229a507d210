/- The walk of WindowOn: it returns true and turns nothing that was there. -/
import Derived.Test.YtffkilfcphbbdaaL4
namespace Go.Proofs.Ytffkilfcphbbdaa
open Go.RowKit Go.ChangeShapes Go.WideShapes Go.Deep
theorem ints_open {H : Type} {enc : TypeId × Value → H} {w : World} {base : Nat} {spare : Nat → Bool} {held : Bool} {a : Option Addr} {n cap : Nat} {d : DataW H} {p : List MemPlace}
    (h : DataW.Trod enc Try.prog w base spare held 27 (.slice a n cap) d p) : n ≤ maxLen ∧ ∀ i, i < n → ∃ (b o : Nat) (z : Int), a = some ⟨b, o, none⟩ ∧ w.cell? ⟨b, o + i, none⟩ = some (.int .i64 z) := by
  obtain ⟨fuel, hh⟩ := h
  rcases open_slice1 Try.underlying27 (by kernel_rfl) hh with ⟨h0, _⟩ | ⟨ad, len, cp, m, q, V, D, Pl, h0, _, hl, hcm, hm, _, hx⟩
  · simp only [Value.cells, List.cons.injEq, Value.slice.injEq] at h0
    obtain ⟨⟨rfl, rfl, rfl⟩, _⟩ := h0
    exact ⟨Nat.zero_le _, fun i hi => by omega⟩
  · simp only [Value.cells, List.cons.injEq, Value.slice.injEq] at h0
    obtain ⟨⟨rfl, rfl, rfl⟩, _⟩ := h0
    refine ⟨by omega, fun i hi => ?_⟩
    have him : i < m := by rw [hm]; split <;> omega
    obtain ⟨b, o, spot⟩ := ad
    have hs := World.cell?_spot (hx 0 (by omega)).1
    have hsp : spot = none := by simpa [Addr.add] using hs
    subst hsp
    obtain ⟨hc, ht⟩ := hx i him
    obtain ⟨z, e, _, _⟩ := DataW.trod_int Try.underlying3 ht
    simp only [List.cons.injEq, and_true] at e
    rw [e, add_none] at hc
    exact ⟨b, o, z, rfl, hc⟩
theorem on_plain (k a0 s n ack : Int) (hk : 1 ≤ k) (hk2 : k ≤ 16) (ha : 0 ≤ a0) (h1 : a0 ≤ ack) (h2 : ack ≤ s) (h3 : s ≤ n) (hn : n < 200) (h4 : s ≤ a0 + k) :
    ∃ m : Nat, (m : Int) = min n (ack + k) - s ∧ (Win.mk k 64 a0 s 0).Ok ∧ Win.good ack n 0 = true ∧ (Win.mk k 64 a0 s 0).next ack n 0 = Win.mk k 64 ack (s + m) 0 ∧ (Win.mk k 64 a0 s 0).few ack n 0 = m ∧ (Win.mk k 64 a0 s 0).out ack n 0 = upTo s m := by
  obtain ⟨m, hm⟩ : ∃ m : Nat, (m : Int) = min n (ack + k) - s := ⟨(min n (ack + k) - s).toNat, by omega⟩
  have ea : (Win.mk k 64 a0 s 0).ack1 ack = ack := by unfold Win.ack1; dsimp only; omega
  have es : (Win.mk k 64 a0 s 0).sent1 ack 0 = s := by unfold Win.sent1; rw [ea, if_neg (by dsimp only; omega)]
  have ef : (Win.mk k 64 a0 s 0).few ack n 0 = m := by unfold Win.few; rw [ea, es]; dsimp only; omega
  refine ⟨m, hm, by constructor <;> dsimp only <;> omega, by simp [Win.good]; omega, ?_, ef, by unfold Win.out; rw [ef, es]⟩
  unfold Win.next
  rw [ef, ea, es]
  split
  · rename_i h0; subst h0; simp
  · rfl
set_option maxRecDepth 100000 in
set_option maxHeartbeats 1000000 in
theorem on_walk (z0 z1 : Int) (a : Option Addr) (len cap : Nat) (w : World) (hl : len ≤ maxLen) (ha : ∀ i, i < len → ∃ (b o : Nat) (z : Int), a = some ⟨b, o, none⟩ ∧ w.cell? ⟨b, o + i, none⟩ = some (.int .i64 z)) :
    Calls Try.prog 4 #[.int .i64 z0, .int .i64 z1, .slice a len cap] w fun e w' => e = .returned (.bool true) ∧ Below w.heap.size w w' := by
  unfold maxLen at hl
  obtain ⟨q0, e0, p0, r0⟩ := umod z0 16 (by omega)
  obtain ⟨n, e1, p1, r1⟩ := umod z1 200 (by omega)
  have HA := Lib.hid ha
  clear ha
  go_enter Try.func4, Try.ntmps4
  go_wp2_with fail
  refine (new_ok _ _ _ (by omega)).mono ?_
  rintro e w' ⟨rfl, rfl⟩
  obtain ⟨b, hb'⟩ : ∃ b, b = w.heap.size := ⟨_, rfl⟩
  obtain ⟨wa, hwa⟩ : ∃ wa, wa = w.alloc (.cells #[.int .i64 (1 + q0), .int .i64 64, .int .i64 0, .int .i64 0, .int .i64 0] 48) := ⟨_, rfl⟩
  have i0 : IsWin wa b 48 ⟨1 + q0, 64, 0, 0, 0⟩ := by rw [hwa, hb']; exact heap_alloc_new w _
  have k0 : Keep (fun _ => False) w wa := by rw [hwa]; exact Keep.alloc _ _ _
  rw [← hwa, ← hb']
  have I0 := Lib.hid i0
  have K0 := Lib.hid k0
  have HB := Lib.hid hb'
  clear hb' i0 k0 hwa
  by_cases hbig : 1000 < len
  · go_wp2_with (go_at_call 11; refine (lives_ok _).mono ?_; rintro e w4 ⟨rfl, hk4⟩)
    go_ret
    rename_i hk4
    exact ⟨rfl, Keep.below (K0.out.trans hk4) (Nat.le_refl _) (fun _ h => h.elim)⟩
  · go_wp2_with fail
    go_loopw [11, 12, 13] (fun nx ac i wr => ∃ (k : Nat) (a0 s ack : Int), k ≤ n + len + 1 ∧ i = .int .i64 k ∧ nx = .int .i64 (s + 1) ∧ ac = .int .i64 ack ∧ 0 ≤ a0 ∧ a0 ≤ ack ∧ ack ≤ s ∧ s ≤ n ∧ s ≤ a0 + (1 + q0) ∧
        ((len : Int) ≤ k → min n (k - len) ≤ ack) ∧ (n + len + 1 ≤ (k : Int) → s = n) ∧ IsWin wr b 48 ⟨1 + q0, 64, a0, s, 0⟩ ∧ Keep (fun _ => False) w wr)
      (fun _ _ i _ => (n + len + 1 - intOf i).toNat)
    case atStart => exact ⟨0, 0, 0, 0, by omega, rfl, rfl, rfl, by omega, by omega, by omega, by omega, by omega, by omega, by omega, I0.out, K0.out⟩
    case round =>
      obtain ⟨k, a0, s, ack, hk, rfl, rfl, rfl, h1, h2, h3, h4, h5, h6, h7, hi, hkp⟩ := hrel
      have HI := Lib.hid hi
      have HK := Lib.hid hkp
      have H6 := Lib.hid h6
      have H7 := Lib.hid h7
      clear hi hkp I0 K0 h6 h7
      by_cases hlt : (k : Int) < n + len + 1
      · obtain ⟨m, hm, ok, good, en, ef, eo⟩ := on_plain (1 + q0) a0 s n ack (by omega) (by omega) h1 h2 h3 h4 r1 h5
        have HM := Lib.hid hm
        have HO := Lib.hid ok
        have HG := Lib.hid good
        have HE := Lib.hid (And.intro en (And.intro ef eo))
        have hmb : (m : Int) ≤ 200 := by omega
        have hmb2 : s + m ≤ n := by omega
        clear hm ok good en ef eo
        go_wp2_with fail
        refine (next_to _ _ _ HO.out HI.out ack n 0 HG.out _ _ _ HE.out.1 HE.out.2.1 HE.out.2.2).mono ?_
        rintro e w2 ⟨a2, p2, rfl, i2, o2, k2⟩
        have HI2 := Lib.hid i2
        have HO2 := Lib.hid o2
        have HK2 := Lib.hid (HK.out.step k2 (fun i hi => .inr (by have := HB.out; omega)))
        clear i2 o2 k2
        go_wp2_with fail
        go_loop [11, 73] (fun nx ix => ∃ j : Nat, j ≤ m ∧ ix = .int .i64 j ∧ nx = .int .i64 (s + 1 + j)) (fun _ ix => m - (intOf ix).toNat)
        case atStart => exact ⟨0, by omega, rfl, by simp⟩
        case round =>
          obtain ⟨j, hj, rfl, rfl⟩ := hrel
          have hpj : (0 : Int) ≤ j := by omega
          by_cases hjm : j < m
          · obtain ⟨g, rfl, _, hcj⟩ := own_int HO2.out j hjm
            rw [upTo_getD _ _ _ hjm] at hcj
            have hjm' : (j : Int) < m := by omega
            go_wp2_with fail
            go_round
            case rel => exact ⟨j + 1, by omega, by go_num, by go_num⟩
            case measure => simp [intOf] <;> omega
          · obtain rfl : j = m := by omega
            by_cases hkl : k < len
            · obtain ⟨ab, ao, z, rfl, hz⟩ := HA.out k hkl
              have hz2 : w2.cell? ⟨ab, ao + k, none⟩ = some (.int .i64 z) := by
                rw [World.cell?_of_block (w := w) (HK2.out.block ab (World.block_lt_of_cell? _ _ hz) (fun h => h)), hz]
              obtain ⟨q2, e2, p2, r2⟩ := umod z 20 (by omega)
              have hpk : (0 : Int) ≤ k := by omega
              have hkl' : (k : Int) < len := by omega
              clear hz
              go_wp2_with fail
              all_goals
                go_roundw
                case rel =>
                  have h6 := H6.out
                  have hM := HM.out
                  exact ⟨k + 1, ack, s + j, _, by omega, by go_num, by congr 1; omega, rfl, by omega, by omega, by omega, by omega, by omega, by intro h; omega, by intro h; omega, HI2.out, HK2.out⟩
                case measure => simp [intOf] <;> omega
            · have hkl' : ¬ (k : Int) < len := by omega
              go_wp2_with fail
              all_goals
                go_roundw
                case rel =>
                  have h6 := H6.out
                  have hM := HM.out
                  exact ⟨k + 1, ack, s + j, _, by omega, by go_num, by congr 1; omega, rfl, by omega, by omega, by omega, by omega, by omega, by intro h; omega, by intro h; omega, HI2.out, HK2.out⟩
                case measure => simp [intOf] <;> omega
      · have h8 : s = n ∧ ack = n := by
          have h := H7.out (by omega)
          have h' := H6.out (by omega)
          exact ⟨h, by omega⟩
        obtain ⟨rfl, rfl⟩ := h8
        go_wp2_with (go_at_call 11; refine (lives_ok _).mono ?_; rintro e w4 ⟨rfl, hk4⟩)
        go_ret
        rename_i hk4
        exact ⟨rfl, Keep.below (HK.out.trans hk4) (Nat.le_refl _) (fun _ h => h.elim)⟩
end Go.Proofs.Ytffkilfcphbbdaa
