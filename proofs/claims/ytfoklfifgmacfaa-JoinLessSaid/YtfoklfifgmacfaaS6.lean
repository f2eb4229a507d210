/- The join of vectors, walked, of both texts. -/
import Derived.Test.YtfoklfifgmacfaaS5
namespace Go.Proofs.Ytfoklfifgmacfaa
open Go.RowKit
/-- A slice of vectors that can be read. -/
def Vs (w : World) (a : Option Addr) (l : List (Int × Int)) : Prop :=
  ∀ (i : Nat) (x : Int × Int), l[i]? = some x → ∃ b o, a = some ⟨b, o, none⟩ ∧ w.cell? ⟨b, o + i * 2, none⟩ = some (.int .i64 x.1) ∧ w.cell? ⟨b, o + i * 2 + 1, none⟩ = some (.int .i64 x.2)
theorem Vs.keep0 {w w' : World} {a : Option Addr} {l : List (Int × Int)} (h : Vs w a l) (k : Keep (fun _ => False) w w') : Vs w' a l := by
  intro i x hx
  obtain ⟨b, o, rfl, h1, h2⟩ := h i x hx
  have hb : w'.heap[b]? = w.heap[b]? := k.block b (World.block_lt_of_cell? _ _ h1) (fun h => h)
  exact ⟨b, o, rfl, by rw [World.cell?_of_block (w := w) hb, h1], by rw [World.cell?_of_block (w := w) hb, h2]⟩
theorem vmax_step (l : List (Int × Int)) (k : Nat) (x : Int × Int) (h : l[k]? = some x) : vmax (l.take (k + 1)) = (max (vmax (l.take k)).1 x.1, max (vmax (l.take k)).2 x.2) := by
  unfold vmax
  rw [List.take_add_one, h, List.foldl_append]; rfl
set_option maxHeartbeats 1000000 in
theorem vjoin_any (l : List (Int × Int)) (a : Option Addr) (cap : Nat) (w : World) (hl : l.length ≤ 1000) (hc : Vs w a l) :
    Calls Try.prog 25 #[.slice a l.length cap] w fun e w' => e = .returned (.agg #[.int .i64 (vmax l).1, .int .i64 (vmax l).2]) ∧ Keep (fun _ => False) w w' := by
  obtain ⟨n, hn⟩ : ∃ n, n = l.length := ⟨_, rfl⟩
  rw [← hn] at hl
  rw [← hn]
  have HN := Lib.hid hn
  have HC := Lib.hid hc
  clear hn hc
  go_enter Try.func25, Try.ntmps25
  go_wp2_with fail
  obtain ⟨r, hr⟩ : ∃ r, r = w.heap.size := ⟨_, rfl⟩
  rw [← hr]
  generalize hwa : w.alloc (Obj.cells #[Value.int IntKind.i64 0, Value.int IntKind.i64 0] 25) = wa
  have H0 : Hid (IsV wa r 0 0) := by rw [← hwa, hr]; exact heap_alloc_new w _
  have K0 : Hid (Keep (fun _ => False) w wa) := by rw [← hwa]; exact Keep.alloc _ _ _
  have HR := Lib.hid hr
  clear hr hwa
  go_loopw [7] (fun i wr => ∃ k : Nat, k ≤ n ∧ i = .int .i64 k ∧ IsV wr r (vmax (l.take k)).1 (vmax (l.take k)).2 ∧ Keep (fun _ => False) w wr) (fun i _ => n - (intOf i).toNat)
  case atStart => exact ⟨0, by omega, rfl, H0.out, K0.out⟩
  case round =>
    obtain ⟨k, hk, rfl, hst, hkp⟩ := hrel
    have HK := Lib.hid hkp
    have HL := Lib.hid (HC.out.keep0 hkp)
    clear hkp H0 K0
    by_cases hlt : k < n
    · obtain ⟨x, hx⟩ : ∃ x, l[k]? = some x := ⟨_, List.getElem?_eq_getElem (by rw [← HN.out]; exact hlt)⟩
      obtain ⟨b, o, rfl, d1, d2⟩ := HL.out k x hx
      have hs := vmax_step l k x hx
      have HX := Lib.hid hx
      generalize vmax (l.take k) = y at *
      obtain ⟨yn, ys⟩ := y
      obtain ⟨xn, xs⟩ := x
      have HS := Lib.hid hs
      have HY := Lib.hid hst
      have hp : (0 : Int) ≤ k := by omega
      have hlt' : (k : Int) < n := by omega
      clear hx hs hst
      dsimp only at d1 d2
      go_upto_region 4 with fail
      generalize hwx : wr.alloc (Obj.cells #[Value.int IntKind.i64 xn, Value.int IntKind.i64 xs] 25) = wx
      obtain ⟨q, hq⟩ : ∃ q, q = wr.heap.size := ⟨_, rfl⟩
      rw [← hq]
      have kx : Keep (fun _ => False) wr wx := by rw [← hwx]; exact Keep.alloc _ _ _
      have HQ : Hid (IsV wx q xn xs) := by rw [← hwx, hq]; exact heap_alloc_new wr _
      have HY' := Lib.hid (HY.out.keep0 kx)
      have HK' := Lib.hid (HK.out.trans kx)
      obtain ⟨q1, q2, _, _⟩ := HQ.out.cells
      obtain ⟨y1, y2, _, _⟩ := HY'.out.cells
      dsimp only at q1 q2 y1 y2
      clear hwx hq kx d1 d2 HY HK HL
      go_wp2_with (go_at_call 33; refine (each34_any _ _ _ _ _).mono ?_; rintro e w1 ⟨rfl, hk1⟩; have HK1 := Lib.hid (HK'.out.trans hk1); have HY1 := Lib.hid (HY'.out.keep0 hk1); obtain ⟨v1, v2, v3, v4⟩ := HY1.out.cells; clear hk1)
      go_roundw
      case rel => exact ⟨k + 1, by omega, by go_num, by rw [HS.out]; exact HY1.out.set _ _, (HK1.out.setNew (by have := HR.out; dsimp only; omega) _).setNew (by have := HR.out; dsimp only; omega) _⟩
      case measure => simp [intOf] <;> omega
    · obtain rfl : k = n := by omega
      have hall : l.take k = l := by rw [HN.out]; exact List.take_length
      rw [hall] at hst
      obtain ⟨y, hy⟩ : ∃ y, y = vmax l := ⟨_, rfl⟩
      rw [← hy] at hst
      obtain ⟨yn, ys⟩ := y
      have HYE := Lib.hid hy
      clear hy
      have HY := Lib.hid hst
      obtain ⟨y1, y2, y3, y4⟩ := hst.cells
      dsimp only at y1 y2
      clear hst hall HL
      go_wp2_with fail
      exact bodyPost_ret (v := .agg #[.int .i64 yn, .int .i64 ys]) (by simp [results, Try.results25, go_sem, *]) rfl
        ⟨by rw [← HYE.out], (HK.out.setNew (by have := HR.out; dsimp only; omega) _).setNew (by have := HR.out; dsimp only; omega) _⟩
end Go.Proofs.Ytfoklfifgmacfaa
