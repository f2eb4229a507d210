/- The join of cells by the document, walked. -/
import Derived.Test.YtfoklfifgmacfaaS9
namespace Go.Proofs.Ytfoklfifgmacfaa
open Go.RowKit
/-- A slice of cells that can be read. -/
def Cs (w : World) (a : Option Addr) (l : List C) : Prop :=
  ∀ (i : Nat) (x : C), l[i]? = some x → ∃ b o, a = some ⟨b, o, none⟩ ∧ w.cell? ⟨b, o + i * 8, none⟩ = some (.int .i64 x.n) ∧ w.cell? ⟨b, o + i * 8 + 1, none⟩ = some (.int .i64 x.s) ∧ w.cell? ⟨b, o + i * 8 + 2, none⟩ = some (.int .i64 x.v0) ∧
    w.cell? ⟨b, o + i * 8 + 3, none⟩ = some (.int .i64 x.v1) ∧ w.cell? ⟨b, o + i * 8 + 4, none⟩ = some (.bool x.gone) ∧ w.cell? ⟨b, o + i * 8 + 5, none⟩ = some (.string x.value) ∧ w.cell? ⟨b, o + i * 8 + 6, none⟩ = some (.int .i64 x.d0) ∧ w.cell? ⟨b, o + i * 8 + 7, none⟩ = some (.int .i64 x.d1)
theorem Cs.keep0 {w w' : World} {a : Option Addr} {l : List C} (h : Cs w a l) (k : Keep (fun _ => False) w w') : Cs w' a l := by
  intro i x hx
  obtain ⟨b, o, rfl, h0, h1, h2, h3, h4, h5, h6, h7⟩ := h i x hx
  have hb : w'.heap[b]? = w.heap[b]? := k.block b (World.block_lt_of_cell? _ _ h0) (fun h => h)
  refine ⟨b, o, rfl, ?_, ?_, ?_, ?_, ?_, ?_, ?_, ?_⟩ <;> rw [World.cell?_of_block (w := w) hb] <;> assumption
theorem join_step (l : List C) (k : Nat) (x : C) (h : l[k]? = some x) : C.join (l.take (k + 1)) = (C.join (l.take k)).two x := by
  unfold C.join
  rw [List.take_add_one, h, List.foldl_append]; rfl
theorem rtwo_any (x y : C) (w : World) :
    Calls Try.prog 26 #[.agg #[.int .i64 x.n, .int .i64 x.s, .int .i64 x.v0, .int .i64 x.v1, .bool x.gone, .string x.value, .int .i64 x.d0, .int .i64 x.d1], .agg #[.int .i64 y.n, .int .i64 y.s, .int .i64 y.v0, .int .i64 y.v1, .bool y.gone, .string y.value, .int .i64 y.d0, .int .i64 y.d1]] w
      fun e w' => e = .returned (x.two y).v ∧ Keep (fun _ => False) w w' := rtwo_at _ _ _ _ _ _ _ _ _ _ _ _ _ _ _ _ w
set_option maxHeartbeats 1000000 in
theorem rjoin_any (l : List C) (a : Option Addr) (cap : Nat) (w : World) (hl : l.length ≤ 1000) (hc : Cs w a l) :
    Calls Try.prog 13 #[.slice a l.length cap] w fun e w' => e = .returned (C.join l).v ∧ Keep (fun _ => False) w w' := by
  obtain ⟨n, hn⟩ : ∃ n, n = l.length := ⟨_, rfl⟩
  rw [← hn] at hl
  rw [← hn]
  have HN := Lib.hid hn
  have HC := Lib.hid hc
  clear hn hc
  go_enter Try.func13, Try.ntmps13
  go_wp2_with fail
  obtain ⟨r2, hr2⟩ : ∃ r, r = w.heap.size := ⟨_, rfl⟩
  rw [← hr2]
  generalize hwb : w.alloc (Obj.cells #[.int .i64 0, .int .i64 0, .int .i64 0, .int .i64 0, .bool false, .string ⟨#[]⟩, .int .i64 0, .int .i64 0] 27) = wb
  obtain ⟨r, hr⟩ : ∃ r, r = r2 + 1 := ⟨_, rfl⟩
  rw [← hr]
  generalize hwa : wb.alloc (Obj.cells #[.int .i64 0, .int .i64 0, .int .i64 0, .int .i64 0, .bool false, .string ⟨#[]⟩, .int .i64 0, .int .i64 0] 27) = wa
  have hrb : r = wb.heap.size := by rw [hr, hr2, ← hwb]; simp
  have G0 : Hid (IsC wb r2 C.zero) := by rw [← hwb, hr2]; exact IsC.new w C.zero
  have G1 : Hid (IsC wa r2 C.zero) := by rw [← hwa]; exact G0.out.keep0 (Keep.alloc _ _ _)
  have H0 : Hid (IsC wa r C.zero) := by rw [← hwa, hrb]; exact IsC.new wb C.zero
  have K0 : Hid (Keep (fun _ => False) w wa) := by rw [← hwa, ← hwb]; exact (Keep.alloc _ _ _).allocR _
  have HR : Hid (r2 = w.heap.size ∧ r = w.heap.size + 1) := ⟨hr2, by rw [hr, hr2]⟩
  clear hr hr2 hrb hwa hwb G0
  go_loopw [4] (fun i wr => ∃ k : Nat, k ≤ n ∧ i = .int .i64 k ∧ IsC wr r (C.join (l.take k)) ∧ IsC wr r2 C.zero ∧ Keep (fun _ => False) w wr) (fun i _ => n - (intOf i).toNat)
  case atStart => exact ⟨0, by omega, rfl, H0.out, G1.out, K0.out⟩
  case round =>
    obtain ⟨k, hk, rfl, hst, hst2, hkp⟩ := hrel
    have HK := Lib.hid hkp
    have HL := Lib.hid (HC.out.keep0 hkp)
    have HZ := Lib.hid hst2
    clear hkp H0 K0 hst2 G1
    by_cases hlt : k < n
    · obtain ⟨x, hx⟩ : ∃ x, l[k]? = some x := ⟨_, List.getElem?_eq_getElem (by rw [← HN.out]; exact hlt)⟩
      obtain ⟨b, o, rfl, d0, d1, d2, d3, d4, d5, d6, d7⟩ := HL.out k x hx
      have HS := Lib.hid (join_step l k x hx)
      generalize C.join (l.take k) = y at *
      obtain ⟨z, hz⟩ : ∃ z, z = y.two x := ⟨_, rfl⟩
      have HT : Hid (∀ w, Calls Try.prog 26 #[.agg #[.int .i64 y.n, .int .i64 y.s, .int .i64 y.v0, .int .i64 y.v1, .bool y.gone, .string y.value, .int .i64 y.d0, .int .i64 y.d1], .agg #[.int .i64 x.n, .int .i64 x.s, .int .i64 x.v0, .int .i64 x.v1, .bool x.gone, .string x.value, .int .i64 x.d0, .int .i64 x.d1]] w
          fun e w' => e = .returned (.agg #[.int .i64 z.n, .int .i64 z.s, .int .i64 z.v0, .int .i64 z.v1, .bool z.gone, .string z.value, .int .i64 z.d0, .int .i64 z.d1]) ∧ Keep (fun _ => False) w w') := by intro w; rw [hz]; exact rtwo_any y x w
      rw [← hz] at HS
      obtain ⟨yn, ys, yv0, yv1, yg, yt, yd0, yd1⟩ := y
      obtain ⟨xn, xs, xv0, xv1, xg, xt, xd0, xd1⟩ := x
      obtain ⟨zn, zs, zv0, zv1, zg, zt, zd0, zd1⟩ := z
      have HY := Lib.hid hst
      have hp : (0 : Int) ≤ k := by omega
      have hlt' : (k : Int) < n := by omega
      obtain ⟨y0, y1, y2, y3, y4, y5, y6, y7⟩ := hst.cells
      have hbl := World.block_lt_of_cell? _ _ d0
      have hrl := hst.lt
      clear hx hst hz
      dsimp only at d0 d1 d2 d3 d4 d5 d6 d7 y0 y1 y2 y3 y4 y5 y6 y7 hbl HT
      have hRl := (Later.rules wr).1
      go_upto_region 5 with fail
      refine wp_region_later_tail 6 (by kernel_rfl) (by kernel_rfl) ?_
      simp only [List.take_succ_cons, List.take_zero, List.drop_succ_cons, List.drop_zero]
      repeat (refine wpQuiet_step (fun K hK => ?_); go_simp; first | (refine hK _ ?_; clear hK K) | (apply Exists.intro; refine ⟨fun _ => ?_, hK _ ?_⟩; (go_at_call 26; exact Later.call (HT.out _)); clear hK K))
      refine wpQuiet_nil ?_
      intro _ hw'
      obtain ⟨g, hw''⟩ := hw'
      subst hw''
      obtain ⟨wg, hwg⟩ : ∃ wg, wg = g.world := ⟨_, rfl⟩
      have hkg := g.keep
      rw [← hwg] at hkg ⊢
      have HKg := Lib.hid (HK.out.trans hkg)
      have HYg := Lib.hid (HY.out.keep0 hkg)
      have HZg := Lib.hid (HZ.out.keep0 hkg)
      clear hRl d0 d1 d2 d3 d4 d5 d6 d7 y0 y1 y2 y3 y4 y5 y6 y7 hbl hrl hwg hkg
      obtain ⟨y0, y1, y2, y3, y4, y5, y6, y7⟩ := HYg.out.cells
      have fz := HYg.out.free
      dsimp only at y0 y1 y2 y3 y4 y5 y6 y7
      go_wp2_with fail
      go_roundw
      case rel => exact ⟨k + 1, by omega, by go_num, by rw [HS.out]; exact HYg.out.set ⟨zn, zs, zv0, zv1, zg, zt, zd0, zd1⟩, HZg.out.keep (Keep.set8 wg r ⟨zn, zs, zv0, zv1, zg, zt, zd0, zd1⟩) (by have := HR.out; omega), HKg.out.step (Keep.set8 wg r ⟨zn, zs, zv0, zv1, zg, zt, zd0, zd1⟩) (fun i hi => .inr (by have := HR.out; omega))⟩
      case measure => simp [intOf] <;> omega
    · obtain rfl : k = n := by omega
      have hall : l.take k = l := by rw [HN.out]; exact List.take_length
      rw [hall] at hst
      obtain ⟨y, hy⟩ : ∃ y, y = C.join l := ⟨_, rfl⟩
      rw [← hy] at hst
      have HYE := Lib.hid hy
      clear hy
      obtain ⟨yn, ys, yv0, yv1, yg, yt, yd0, yd1⟩ := y
      have HY := Lib.hid hst
      obtain ⟨y0, y1, y2, y3, y4, y5, y6, y7⟩ := hst.cells
      obtain ⟨z0, z1, z2, z3, z4, z5, z6, z7⟩ := HZ.out.cells
      have fz := HZ.out.free
      dsimp only [C.zero] at y0 y1 y2 y3 y4 y5 y6 y7 z0 z1 z2 z3 z4 z5 z6 z7
      clear hst hall HL
      go_wp2_with fail
      exact bodyPost_ret (v := .agg #[.int .i64 yn, .int .i64 ys, .int .i64 yv0, .int .i64 yv1, .bool yg, .string yt, .int .i64 yd0, .int .i64 yd1]) (by simp [results, Try.results13, go_sem, *]) rfl
        ⟨by rw [← HYE.out]; rfl, HK.out.step (Keep.set8 wr r2 ⟨yn, ys, yv0, yv1, yg, yt, yd0, yd1⟩) (fun i hi => .inr (by have := HR.out; omega))⟩
end Go.Proofs.Ytfoklfifgmacfaa
