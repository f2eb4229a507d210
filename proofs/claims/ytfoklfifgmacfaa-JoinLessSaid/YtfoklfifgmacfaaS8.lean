/- The join of two by the document, walked. -/
import Derived.Test.YtfoklfifgmacfaaS7
namespace Go.Proofs.Ytfoklfifgmacfaa
open Go.RowKit
theorem vs_two {w : World} {b : Nat} {p q x y : Int} (h : w.heap[b]? = some (.cells #[.int .i64 p, .int .i64 q, .int .i64 x, .int .i64 y] 25 (0, 0))) : Vs w (some ⟨b, 0, none⟩) [(p, q), (x, y)] := by
  intro i z hz
  match i, hz with
  | 0, hz => simp at hz; subst hz; exact ⟨b, 0, rfl, cell_of h 0, cell_of h 1⟩
  | 1, hz => simp at hz; subst hz; exact ⟨b, 0, rfl, cell_of h 2, cell_of h 3⟩
theorem rvjoin_two (b : Nat) (p q x y : Int) (w : World) (h : w.heap[b]? = some (.cells #[.int .i64 p, .int .i64 q, .int .i64 x, .int .i64 y] 25 (0, 0))) :
    Calls Try.prog 40 #[.slice (some ⟨b, 0, none⟩) 2 2] w fun e w' => e = .returned (.agg #[.int .i64 (max (max 0 p) x), .int .i64 (max (max 0 q) y)]) ∧ Keep (fun _ => False) w w' :=
  rvjoin_any [(p, q), (x, y)] _ 2 w (by simp) (vs_two h)
set_option maxHeartbeats 1000000 in
theorem rvtwo_any (p q x y : Int) (w : World) :
    Calls Try.prog 35 #[.agg #[.int .i64 p, .int .i64 q], .agg #[.int .i64 x, .int .i64 y]] w fun e w' => e = .returned (.agg #[.int .i64 (max (max 0 p) x), .int .i64 (max (max 0 q) y)]) ∧ Keep (fun _ => False) w w' := by
  obtain ⟨m1, hm1⟩ : ∃ z, z = max (max 0 p) x := ⟨_, rfl⟩
  obtain ⟨m2, hm2⟩ : ∃ z, z = max (max 0 q) y := ⟨_, rfl⟩
  rw [← hm1, ← hm2]
  have T := fun w b h => (hm1 ▸ hm2 ▸ rvjoin_two b p q x y w h : Calls Try.prog 40 #[.slice (some ⟨b, 0, none⟩) 2 2] w fun e w' => e = .returned (.agg #[.int .i64 m1, .int .i64 m2]) ∧ Keep (fun _ => False) w w')
  have HT := Lib.hid T
  clear hm1 hm2 T
  go_enter Try.func35, Try.ntmps35
  go_upto_region 1 with fail
  obtain ⟨r, hr⟩ : ∃ r, r = w.heap.size := ⟨_, rfl⟩
  rw [← hr]
  generalize hw1 : w.alloc (Obj.cells #[Value.int IntKind.i64 p, Value.int IntKind.i64 q] 25) = w1
  generalize hw2 : w1.alloc (Obj.cells #[Value.int IntKind.i64 x, Value.int IntKind.i64 y] 25) = w2
  generalize hw3 : w2.alloc (Obj.cells #[Value.int IntKind.i64 0, Value.int IntKind.i64 0] 25) = w3
  have s1 : w1.heap.size = r + 1 := by rw [← hw1, hr]; simp
  have s2 : w2.heap.size = r + 1 + 1 := by rw [← hw2, ← s1]; simp
  have s3 : w3.heap.size = r + 1 + 1 + 1 := by rw [← hw3, ← s2]; simp
  have k3 : Keep (fun _ => False) w2 w3 := by rw [← hw3]; exact Keep.alloc _ _ _
  have k2 : Keep (fun _ => False) w1 w2 := by rw [← hw2]; exact Keep.alloc _ _ _
  have k1 : Keep (fun _ => False) w w1 := by rw [← hw1]; exact Keep.alloc _ _ _
  have H1 : Hid (IsV w3 r p q) := by have : IsV w1 r p q := (by rw [← hw1, hr]; exact IsV.new w p q); exact (this.keep0 k2).keep0 k3
  have H2 : Hid (IsV w3 (r + 1) x y) := by have : IsV w2 (r + 1) x y := (by rw [← hw2, ← s1]; exact IsV.new w1 x y); exact this.keep0 k3
  have H3 : Hid (IsV w3 (r + 1 + 1) 0 0) := by rw [← hw3, ← s2]; exact IsV.new w2 0 0
  have K0 : Hid (Keep (fun _ => False) w w3) := (k1.trans k2).trans k3
  have HR := Lib.hid hr
  have HS := Lib.hid s3
  clear hw1 hw2 hw3 s1 s2 s3 k1 k2 k3 hr
  obtain ⟨c0, c1, _, _⟩ := H1.out.cells
  obtain ⟨e0, e1, _, _⟩ := H2.out.cells
  go_wp2_with (go_at_call 40; refine (HT.out _ _ (heap_alloc_new w3 _)).mono ?_; rintro e w4 ⟨rfl, hk⟩; have HK := Lib.hid ((K0.out.allocR _).trans hk); obtain ⟨f0, f1, f2, f3⟩ := ((H3.out.keep0 (Keep.alloc _ w3 _)).keep0 hk).cells; clear hk)
  exact bodyPost_ret (v := .agg #[.int .i64 m1, .int .i64 m2]) (by simp [results, Try.results35, go_sem, *]) rfl
    ⟨rfl, (HK.out.setNew (by have := HR.out; dsimp only; omega) _).setNew (by have := HR.out; dsimp only; omega) _⟩
end Go.Proofs.Ytfoklfifgmacfaa
