/- The walk of WindowPlays: it returns true and turns nothing that was there. -/
import Derived.Test.YtffkilfcphbbdaaL1
import Derived.Test.YtffkilfcphbbdaaW6
namespace Go.Proofs.Ytffkilfcphbbdaa
open Go.RowKit
/-- A slice of calls that can be read: of each its four numbers. -/
def Acts (w : World) (a : Option Addr) (n : Nat) : Prop :=
  ∀ i, i < n → ∃ (b o : Nat) (z0 z1 z2 z3 : Int), a = some ⟨b, o, none⟩ ∧ w.cell? ⟨b, o + i * 4, none⟩ = some (.int .i64 z0) ∧ w.cell? ⟨b, o + i * 4 + 1, none⟩ = some (.int .i64 z1) ∧
    w.cell? ⟨b, o + i * 4 + 2, none⟩ = some (.int .i64 z2) ∧ w.cell? ⟨b, o + i * 4 + 3, none⟩ = some (.int .i64 z3)
theorem Acts.keep {w w' : World} {a : Option Addr} {n : Nat} (h : Acts w a n) (k : Keep (fun _ => False) w w') : Acts w' a n := by
  intro i hi
  obtain ⟨b, o, z0, z1, z2, z3, rfl, h0, h1, h2, h3⟩ := h i hi
  have hb : w'.heap[b]? = w.heap[b]? := k.block b (World.block_lt_of_cell? _ _ h0) (fun h => h)
  exact ⟨b, o, z0, z1, z2, z3, rfl, by rw [World.cell?_of_block (w := w) hb, h0], by rw [World.cell?_of_block (w := w) hb, h1], by rw [World.cell?_of_block (w := w) hb, h2], by rw [World.cell?_of_block (w := w) hb, h3]⟩
theorem rnext_to (w : World) (b : Nat) (x : Win) (hx : x.Ok) (hw : IsWin w b 42 x) (ack hav now : Int) (hg : Win.good ack hav now = true) (x' : Win) (n : Nat) (l : List Int)
    (h1 : x.next ack hav now = x') (h2 : x.few ack hav now = n) (h3 : x.out ack hav now = l) :
    Calls Try.prog 14 #[.pointer (some ⟨b, 0, none⟩), .int .i64 ack, .int .i64 hav, .int .i64 now] w fun e w' => ∃ a cap,
      e = .returned (.tuple #[.slice a n cap, .int .i64 0]) ∧ IsWin w' b 42 x' ∧ w'.ownsRow w.heap.size 3 1 (.slice a n cap) n (l.map (Value.int .i64)) ∧ Keep (· = b) w w' := by
  subst h1 h2 h3
  refine (rnext_ok w b x hx hw ack hav now hg).mono ?_
  rintro e w' ⟨v, rfl, h1, h2, h3⟩
  obtain ⟨a, cap, rfl, _⟩ := own_len h2
  exact ⟨a, cap, rfl, h1, h2, h3⟩
/-- Both windows hold the same numbers; nothing that was there at w has turned. -/
def Both (w : World) (b r : Nat) (wc : World) : Prop := ∃ x : Win, x.Ok ∧ IsWin wc b 48 x ∧ IsWin wc r 42 x ∧ Keep (fun _ => False) w wc
set_option maxRecDepth 100000 in
set_option maxHeartbeats 1000000 in
theorem plays_walk (s t : Int) (a : Option Addr) (n cap : Nat) (w : World) (hn : n ≤ maxLen) (ha : Acts w a n) :
    Calls Try.prog 5 #[.int .i64 s, .int .i64 t, .slice a n cap] w fun e w' => e = .returned (.bool true) ∧ Below w.heap.size w w' := by
  unfold maxLen at hn
  by_cases hok : 1 ≤ s ∧ s ≤ 16 ∧ 1 ≤ t ∧ t ≤ 64
  · have HA := Lib.hid ha
    clear ha
    go_enter Try.func5, Try.ntmps5
    go_wp2_with fail
    refine (new_ok _ _ _ hok).mono ?_
    rintro e w' ⟨rfl, rfl⟩
    have i0 : IsWin (w.alloc (.cells #[.int .i64 s, .int .i64 t, .int .i64 0, .int .i64 0, .int .i64 0] 48)) w.heap.size 48 ⟨s, t, 0, 0, 0⟩ := heap_alloc_new w _
    have k0 : Keep (fun _ => False) w (w.alloc (.cells #[.int .i64 s, .int .i64 t, .int .i64 0, .int .i64 0, .int .i64 0] 48)) := Keep.alloc _ _ _
    have I0 := Lib.hid i0
    have K0 := Lib.hid k0
    clear i0 k0
    go_wp2_with fail
    refine (rnew_ok _ _ _ hok).mono ?_
    rintro e w' ⟨rfl, rfl⟩
    obtain ⟨wa, hwa⟩ : ∃ wa, wa = w.alloc (.cells #[.int .i64 s, .int .i64 t, .int .i64 0, .int .i64 0, .int .i64 0] 48) := ⟨_, rfl⟩
    rw [← hwa]
    rw [← hwa] at I0 K0
    obtain ⟨r, hr⟩ : ∃ r, r = wa.heap.size := ⟨_, rfl⟩
    rw [← hr]
    obtain ⟨wb, hwb⟩ : ∃ wb, wb = wa.alloc (.cells #[.int .i64 s, .int .i64 t, .int .i64 0, .int .i64 0, .int .i64 0] 42) := ⟨_, rfl⟩
    rw [← hwb]
    have J0 : Hid (IsWin wb r 42 ⟨s, t, 0, 0, 0⟩) := by rw [hwb, hr]; exact heap_alloc_new wa _
    have I1 : Hid (IsWin wb w.heap.size 48 ⟨s, t, 0, 0, 0⟩) := by rw [hwb]; exact I0.out.keep (Keep.alloc (fun _ => False) _ _) (fun h => h)
    have K1 : Hid (Keep (fun _ => False) w wb) := by rw [hwb]; exact K0.out.trans (Keep.alloc _ _ _)
    have hrb : Hid (w.heap.size < r) := by rw [hr, hwa]; simp [Hid]
    clear hwb hwa hr I0 K0 wa
    by_cases hbig : 1000 < n
    · go_wp2_with (go_at_call 11; refine (lives_ok _).mono ?_; rintro e w4 ⟨rfl, hk4⟩)
      go_ret
      exact ⟨rfl, Keep.below (K1.out.trans (by assumption)) (Nat.le_refl _) (fun _ h => h.elim)⟩
    · go_wp2_with fail
      go_loopw [49] (fun i wr => ∃ k : Nat, k ≤ n ∧ i = .int .i64 k ∧ Both w w.heap.size r wr) (fun i _ => n - (intOf i).toNat)
      case atStart => exact ⟨0, by omega, rfl, _, by obtain ⟨h1, h2, h3, h4⟩ := hok; constructor <;> dsimp only <;> omega, I1.out, J0.out, K1.out⟩
      case round =>
        obtain ⟨k, hk, rfl, x, hx, hi, hj, hkp⟩ := hrel
        have HX := Lib.hid hx
        have HI := Lib.hid hi
        have HJ := Lib.hid hj
        have HK := Lib.hid hkp
        have HAk := Lib.hid (HA.out.keep hkp)
        clear hx hi hj hkp I1 J0 K1
        by_cases hlt : k < n
        · obtain ⟨ab, ao, z0, z1, z2, z3, rfl, c0, c1, c2, c3⟩ := HAk.out k hlt
          have hp : (0 : Int) ≤ k := by omega
          go_upto_if 55 with fail
          generalize hwx : wr.alloc (Obj.cells #[Value.int IntKind.i64 z0, Value.int IntKind.i64 z1, Value.int IntKind.i64 z2, Value.int IntKind.i64 z3] 39) = wx
          obtain ⟨q, hq⟩ : ∃ q, q = wr.heap.size := ⟨_, rfl⟩
          rw [← hq]
          have hb : wx.heap[q]? = some (Obj.cells #[Value.int IntKind.i64 z0, Value.int IntKind.i64 z1, Value.int IntKind.i64 z2, Value.int IntKind.i64 z3] 39) := by rw [← hwx, hq]; exact heap_alloc_new wr _
          have kx : Keep (fun _ => False) wr wx := by rw [← hwx]; exact Keep.alloc _ _ _
          have HI' := Lib.hid (HI.out.keep kx (fun h => h))
          have HJ' := Lib.hid (HJ.out.keep kx (fun h => h))
          have HK' := Lib.hid (HK.out.trans kx)
          have d1 := cell_of hb 1
          have d2 := cell_of hb 2
          have d3 := cell_of hb 3
          simp at d1 d2 d3
          have hqb : Hid (w.heap.size < q ∧ r < q) := ⟨by rw [hq]; exact HI.out.lt, by rw [hq]; exact HJ.out.lt⟩
          clear hwx hq hb kx HI HJ HK c0 c1 c2 c3 HAk
          go_cut [] (fun wc => Both w w.heap.size r wc)
          case first =>
            by_cases hz : z0 = 1
            · have hz1 : (z0 == 1) = true := by simpa using hz
              have HZ := Lib.hid hz
              clear hz
              go_wp2_with (go_at_call 13; refine (reset_ok _ _ x HX.out HI'.out).mono ?_; rintro e w2 ⟨rfl, hat2⟩; have HT2 := Lib.hid hat2; have HJ2 := Lib.hid (HJ'.out.keep hat2.2 (by have := hrb.out; omega)); obtain ⟨_, _, e2, e3, _⟩ := HJ2.out.cells; have f3 := HJ2.out.free.2.1; clear hat2)
              go_meet
              case rel =>
                have hbr := hrb.out
                refine ⟨x.reset, Win.ok_reset HX.out, HT2.out.1.keep (Keep.setCell (S := (· = r)) _ _ rfl) (by omega), isWin_sent HJ2.out x.ack, ?_⟩
                exact (HK'.out.step HT2.out.2 (fun i hi => .inr (by omega))).step (Keep.setCell (S := (· = r)) _ _ rfl) (fun i hi => .inr (by omega))
            · have hz1 : (z0 == 1) = false := by simpa using hz
              have HZ := Lib.hid hz
              clear hz
              by_cases hg : Win.good z1 z2 z3 = true
              · have HG := Lib.hid hg
                clear hg
                go_wp2_with fail
                refine (next_to _ _ x HX.out HI'.out z1 z2 z3 HG.out _ _ _ rfl rfl rfl).mono ?_
                rintro e w2 ⟨a2, p2, rfl, i2, o2, k2⟩
                have hbr := hrb.out
                have hlq := World.block_lt_of_cell? _ _ d1
                have hq1 := hqb.out.1
                dsimp only at hlq
                have hblk : w2.heap[q]? = wx.heap[q]? := k2.block q hlq (by omega)
                have d1' : w2.cell? ⟨q, 1, none⟩ = some (.int .i64 z1) := by rw [World.cell?_of_block (w := wx) hblk, d1]
                have d2' : w2.cell? ⟨q, 2, none⟩ = some (.int .i64 z2) := by rw [World.cell?_of_block (w := wx) hblk, d2]
                have d3' : w2.cell? ⟨q, 3, none⟩ = some (.int .i64 z3) := by rw [World.cell?_of_block (w := wx) hblk, d3]
                have HJ2 := Lib.hid (HJ'.out.keep k2 (by omega))
                have HI2 := Lib.hid i2
                have HO2 := Lib.hid o2
                have HK2 := Lib.hid k2
                clear hblk hq1 hlq hbr k2 i2 o2 d1 d2 d3
                go_wp2_with fail
                refine (rnext_to _ _ x HX.out HJ2.out z1 z2 z3 HG.out _ _ _ rfl rfl rfl).mono ?_
                rintro e w3 ⟨a3, p3, rfl, i3, o3, k3⟩
                have hbr := hrb.out
                have hl2 := HI2.out.lt
                have hl1 := HI'.out.lt
                have S1 := Lib.hid (sliceOf_own (ownsRow_keep HO2.out k3 (fun i hi hlt he => by have := HJ'.out.lt; omega)))
                have S2 := Lib.hid (sliceOf_own o3)
                have HI3 := Lib.hid (HI2.out.keep k3 (by omega))
                have HJ3 := Lib.hid i3
                have HK3 := Lib.hid ((HK'.out.step HK2.out (fun i hi => .inr (by omega))).step k3 (fun i hi => .inr (by omega)))
                have hfew : Hid (x.few z1 z2 z3 ≤ maxLen) := by have := Win.few_le HX.out z1 z2 z3; unfold maxLen; simp only [Hid]; omega
                clear i3 o3 k3 hbr hl2 hl1 d1' d2' d3'
                go_wp2_with (go_at_call 10; refine (ints_same _ _ _ _ _ _ _ _ S1.out S2.out hfew.out hfew.out).mono ?_; rintro e w' ⟨rfl, kk, rfl⟩)
                go_meet
                case rel => exact ⟨_, Win.ok_next HX.out HG.out, isWin_drewN HI3.out _, isWin_drewN HJ3.out _, HK3.out.trans (Keep.drewN _ _ _)⟩
              · have HG : Hid (Win.good z1 z2 z3 = false) := Bool.eq_false_iff.2 hg
                clear hg
                go_wp2_with (first
                  | (go_at_call 9; refine (next_bad _ _ x HX.out HI'.out z1 z2 z3 HG.out).mono ?_; rintro e w2 ⟨rfl, rfl⟩)
                  | (go_at_call 14; refine (rnext_bad _ _ z1 z2 z3 HG.out).mono ?_; rintro e w2 ⟨rfl, rfl⟩)
                  | (go_at_call 10; refine (ints_same _ none none 0 0 0 0 [] ⟨rfl, fun i hi => by omega⟩ ⟨rfl, fun i hi => by omega⟩ (by simp [maxLen]) (by simp [maxLen])).mono ?_; rintro e w' ⟨rfl, kk, rfl⟩))
                go_meet
                case rel => exact ⟨x, HX.out, isWin_drewN HI'.out _, isWin_drewN HJ'.out _, HK'.out.trans (Keep.drewN _ _ _)⟩
          case rest =>
            obtain ⟨y, hy, hi, hj, hkp⟩ := hcut
            have HY := Lib.hid hy
            have HI := Lib.hid hi
            have HJ := Lib.hid hj
            have HK := Lib.hid hkp
            obtain ⟨_, _, e2, e3, _⟩ := hj.cells
            have b1 := hy.a1
            have b2 := hy.a2
            have b3 := hy.t1
            have b4 := hy.t2
            have b5 := hy.s2
            clear hy hi hj hkp
            go_wp2_with fail
            go_quiet ((first
              | (go_at_call 15; exact Calls.quiet_of_same ((ack_ok _ _ y HY.out (isWin_drewN HI.out _)).mono fun _ _ h => ⟨h.1, h.2.symm⟩))
              | (go_at_call 16; exact Calls.quiet_of_same ((sent_ok _ _ y HY.out (isWin_drewN HI.out _)).mono fun _ _ h => ⟨h.1, h.2.symm⟩))
              | (go_at_call 17; exact Calls.quiet_of_same ((open_ok _ _ y HY.out (isWin_drewN HI.out _)).mono fun _ _ h => ⟨h.1, h.2.symm⟩))))
            go_wp2_with fail
            go_roundw
            case rel => exact ⟨k + 1, by omega, by go_num, y, HY.out, HI.out, HJ.out, HK.out.trans (Keep.drewN _ _ _)⟩
            case measure => simp [intOf]; omega
        · go_wp2_with (go_at_call 11; refine (lives_ok _).mono ?_; rintro e w4 ⟨rfl, hk4⟩)
          go_ret
          rename_i hk4
          exact ⟨rfl, Keep.below (HK.out.trans hk4) (Nat.le_refl _) (fun _ h => h.elim)⟩
  · go_enter Try.func5, Try.ntmps5
    go_wp2_with (first
      | (go_at_call 8; refine (new_bad _ _ _ hok).mono ?_; rintro e w' ⟨rfl, rfl⟩)
      | (go_at_call 12; refine (rnew_bad _ _ _ hok).mono ?_; rintro e w' ⟨rfl, rfl⟩)
      | (go_at_call 11; refine (lives_ok _).mono ?_; rintro e w4 ⟨rfl, hk4⟩))
    go_ret
    rename_i hk4
    exact ⟨rfl, Keep.below hk4 (Nat.le_refl _) (fun _ h => h.elim)⟩
end Go.Proofs.Ytffkilfcphbbdaa
