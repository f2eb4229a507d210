/- A digest's text. -/
import Derived.Test.YtoeniimgbinflaaDoorS8
import Derived.OwnWalk
import Derived.Deep.AppendLies
import Derived.Laws.AppendOwn
import Derived.Laws.OwnMore
import Derived.Lib.SlBytesRow
import Derived.Lib.BufferRead
namespace Go.Proofs.YtoeniimgbinflaaDoor
open Go.RowKit
theorem Bl.conv {w : World} {a : Option Addr} {xs : List UInt8} (h : Bl w a xs) (cap : Nat) : (convert 22 9 (.slice a xs.length cap)).run Tryd.prog w = .ok (.string ⟨xs.toArray⟩) w := by
  by_cases h0 : xs.length = 0
  · obtain rfl := List.eq_nil_of_length_eq_zero h0
    cases a with
    | none => exact Lib.run_convert_nil_bytes (P := Tryd.prog) w 22 9 5 cap Tryd.underlying22 Tryd.underlying5 Tryd.underlying9
    | some ad =>
      rw [List.length_nil, run_convert_bytes_string w 22 9 5 _ 0 cap Tryd.underlying22 Tryd.underlying5 Tryd.underlying9, run_bytesToString w ad 0 cap [] (by simp [loadCells, loadCellsFrom])]
      rfl
  · obtain ⟨b, o, rfl, _⟩ := h 0 _ (List.getElem?_eq_getElem (by omega))
    exact Lib.run_convert_whole (P := Tryd.prog) w 22 5 9 Tryd.underlying22 Tryd.underlying5 Tryd.underlying9 b o ⟨xs.toArray⟩ (fun i hi => by
      have hi' : i < xs.length := by simpa [ByteArray.size] using hi
      obtain ⟨b', o', e, hc⟩ := h i _ (List.getElem?_eq_getElem hi')
      simp only [Option.some.injEq, Addr.mk.injEq] at e
      obtain ⟨rfl, rfl, _⟩ := e
      rw [hc]
      simp [ByteArray.getElem_eq_getElem_data]) cap
/-- A row of bytes of the call's own can be read. -/
theorem Bl.ofOwn {w : World} {base n : Nat} {a : Option Addr} {cap : Nat} {xs : List UInt8} (h : w.ownsRow base 5 1 (.slice a n cap) n (bv xs)) : Bl w a xs := fun i x hx => by
  have hi := (List.getElem?_eq_some_iff.1 hx).1
  have hl : xs.length = n := by have := h.1; rw [bv_length] at this; omega
  rcases h.2 with ⟨hv, hn⟩ | ⟨g, cap', cur, hv, hb, hg, hc, hm, hs, ht⟩
  · omega
  · simp only [Value.slice.injEq] at hv
    obtain ⟨rfl, _, rfl⟩ := hv
    refine ⟨g, 0, rfl, ?_⟩
    have h1 : (cur.toList.take (n * 1))[i]? = some (Value.int .u8 (x.toNat : Int)) := by
      rw [ht, bv, List.getElem?_map, hx]; rfl
    rw [List.getElem?_take, if_pos (by omega)] at h1
    rw [Nat.zero_add, cell_of hg]
    simpa using h1
def hexd (k : Nat) : UInt8 := [48, 49, 50, 51, 52, 53, 54, 55, 56, 57, 97, 98, 99, 100, 101, 102].getD k 0
def hex2 (x : UInt8) : List UInt8 := [hexd (x.toNat / 16), hexd (x.toNat % 16)]
/-- The text of bytes. -/
def txt (d : List UInt8) : List UInt8 := d.flatMap hex2
theorem txt_snoc (d : List UInt8) (x : UInt8) : txt (d ++ [x]) = txt d ++ hex2 x := by simp [txt]
theorem txt_length (d : List UInt8) : (txt d).length = d.length * 2 := by
  induction d with
  | nil => rfl
  | cons x d ih => rw [show x :: d = [x] ++ d from rfl, txt, List.flatMap_append, ← txt, ← txt]; simp [ih]; simp [txt, hex2]; omega
theorem txt_take (d : List UInt8) (i : Nat) (x : UInt8) (h : d[i]? = some x) : txt (d.take (i + 1)) = txt (d.take i) ++ hex2 x := by
  rw [List.take_add_one, h]; exact txt_snoc _ _
theorem hex_index : ∀ k : Fin 16, (⟨#[48, 49, 50, 51, 52, 53, 54, 55, 56, 57, 97, 98, 99, 100, 101, 102]⟩ : ByteArray)[k.val]? = some (hexd k.val) := by decide +kernel
theorem run_index_hex (w : World) (k : Nat) (h : k < 16) : (Instr.index 9 (.string ⟨#[48, 49, 50, 51, 52, 53, 54, 55, 56, 57, 97, 98, 99, 100, 101, 102]⟩) (.int .u8 (k : Int))).run Tryd.prog w = .ok (.int .u8 ((hexd k).toNat : Int)) w := by
  have hk := hex_index ⟨k, h⟩
  dsimp only at hk
  unfold Instr.index
  simp [asIntOf, Sem.run_bind, run_underlying Tryd.underlying9, hk]
theorem and15 (x : UInt8) : bits .and .u8 (x.toNat : Int) 15 = ((x.toNat % 16 : Nat) : Int) := by
  have h := UInt8.toNat_lt x
  rw [u8_and (x.toNat : Int) 15 (by omega) (by omega) (by decide) (by decide)]
  congr 1
  rw [Int.toNat_natCast]
  exact Nat.and_two_pow_sub_one_eq_mod x.toNat 4
theorem two_cells {w : World} {b : Nat} {x y : Value} {t : TypeId} (h : w.heap[b]? = some (.cells #[x, y] t (0, 0))) : ∀ j u, [x, y][j]? = some u → w.cell? ((⟨b, 0, none⟩ : Addr).add j) = some u := by
  intro j u hj
  rw [add_none, Nat.zero_add, cell_of h]
  match j, hj with
  | 0, hj => simpa using hj
  | 1, hj => simpa using hj
  | n + 2, hj => simp at hj
theorem make_own0 (w : World) (base k : Nat) (hk : k < 1000000) (hb : base ≤ w.heap.size) : ∃ V, (Instr.makeSlice 22 (.int .i64 0) (.int .i64 (k : Int))).run Tryd.prog w = .ok (.slice (some ⟨w.heap.size, 0, none⟩) 0 k) V ∧ V.ownsRow base 5 1 (.slice (some ⟨w.heap.size, 0, none⟩) 0 k) 0 (bv []) ∧ Keep (fun _ => False) w V := by
  obtain ⟨i, hi, hz, hby, hs⟩ := info5
  obtain ⟨V, h1, h2, h3⟩ := run_make_own (P := Tryd.prog) w base 22 5 i (.int .u8 0) 1 Tryd.underlying22 hi hz hs .i64 .i64 k (by rw [hby]; omega) (by unfold maxLen; omega) hb
  exact ⟨V, h1, h2, (Keep.grown h3).mono (fun i hi => by cases hi)⟩
set_option maxHeartbeats 4000000 in
set_option maxRecDepth 100000 in
theorem text_any (w : World) (d : List UInt8) (hd : d.length = 32) : Calls Tryd.prog 14 #[.agg (bv d).toArray] w fun e w' => e = .returned (.string ⟨(txt d).toArray⟩) ∧ Keep (fun _ => False) w w' := by
  obtain ⟨q, hq⟩ : ∃ q, w.heap.size = q := ⟨_, rfl⟩
  have HQ := Lib.hid hq
  obtain ⟨ii, hi5, hz5, hby5, hs5⟩ := info5
  obtain ⟨X, hX⟩ : ∃ X, w.alloc (.cells (bv d).toArray 25) = X := ⟨_, rfl⟩
  have HX : Hid (Keep (fun _ => False) w X) := by rw [← hX]; exact Keep.alloc _ _ _
  have HB : Hid (X.heap[q]? = some (.cells (bv d).toArray 25 (0, 0))) := by rw [← hX, ← hq]; exact heap_alloc_new _ _
  obtain ⟨V, hmk, hown, hkv⟩ := make_own0 X w.heap.size 64 (by decide) HX.out.size
  obtain ⟨q1, hq1⟩ : ∃ q1, X.heap.size = q1 := ⟨_, rfl⟩
  rw [hq1] at hmk hown
  have HOWN := Lib.hid hown
  have HKV : Hid (Keep (fun _ => False) w V) := HX.out.trans hkv
  have hbv := hkv.heap HB.out (fun h => h)
  have hi25 : (Tryd.prog.info? 25).map (·.size) = some (bv d).toArray.size := by rw [List.size_toArray, bv_length, hd]; kernel_rfl
  have HBV := Lib.hid hbv
  have hmk' : (Instr.makeSlice 22 (.int .i64 0) (.int .i64 64)).run Tryd.prog X = .ok (.slice (some ⟨q1, 0, none⟩) 0 64) V := hmk
  clear hown hkv hq1 hmk
  go_enter Tryd.func14, Tryd.ntmps14
  go_wp2_with (refine wpList_load_row rfl 25 (.tmp 1) rfl q rfl 25 (bv d).toArray (0, 0) _ hbv Tryd.underlying25 rfl hi25 ?_)
  have HD : Hid (d.length = 32) := hd
  clear hmk' hbv hi25 hX
  go_loopw [3, 8] (fun t3 t8 wr => ∃ (i : Nat) (a : Option Addr) (cap : Nat), i ≤ 32 ∧ t8 = .int .i64 i ∧ t3 = .slice a (i * 2) cap ∧ Keep (fun _ => False) w wr ∧ wr.ownsRow w.heap.size 5 1 (.slice a (i * 2) cap) (i * 2) (bv (txt (d.take i)))) (fun _ t8 _ => 32 - (intOf t8).toNat)
  case atStart => exact ⟨0, _, _, by omega, rfl, rfl, HKV.out, HOWN.out⟩
  case round =>
    obtain ⟨i, a, cap, hi, rfl, rfl, hk, ho⟩ := hrel
    have HK := Lib.hid hk
    have HO := Lib.hid ho
    clear hk ho
    by_cases hlt : i < 32
    · have hlt' : (i : Int) < 32 := by omega
      obtain ⟨x, hx⟩ : ∃ x, d[i]? = some x := ⟨_, List.getElem?_eq_getElem (by omega)⟩
      have HT : Hid (txt (d.take (i + 1)) = txt (d.take i) ++ hex2 x) := txt_take d i x hx
      have HI : ∀ W, (Instr.index 25 (.agg (bv d).toArray) (.int .i64 (i : Int))).run Tryd.prog W = .ok (.int .u8 (x.toNat : Int)) W := fun W => run_index_int 25 5 32 i .u8 _ _ Tryd.underlying25 Tryd.underlying5 (by kernel_rfl) hlt (by rw [List.getElem?_toArray, bv, List.getElem?_map, hx]; rfl) W
      have hx256 := UInt8.toNat_lt x
      obtain ⟨k1, hk1⟩ : ∃ k, x.toNat / 16 = k := ⟨_, rfl⟩
      obtain ⟨k2, hk2⟩ : ∃ k, x.toNat % 16 = k := ⟨_, rfl⟩
      have e1 : (x.toNat : Int) / 16 = (k1 : Int) := by omega
      have e2 : bits .and .u8 (x.toNat : Int) 15 = (k2 : Int) := by rw [and15, hk2]
      have i1 := fun W => run_index_hex W k1 (by omega)
      have i2 := fun W => run_index_hex W k2 (by omega)
      have HH : Hid (hex2 x = [hexd k1, hexd k2]) := by unfold hex2; rw [hk1, hk2]; exact Lib.hid rfl
      clear hx hk1 hk2 hx256
      generalize hexd k1 = y1 at *
      generalize hexd k2 = y2 at *
      go_wp2_with fail
      refine wp_region_later_from 1 7 (by kernel_rfl) (by kernel_rfl) (fun _ _ d _ _ h => by cases d <;> exact h) ?_
      simp only [List.take_succ_cons, List.take_zero, List.drop_succ_cons, List.drop_zero]
      repeat (refine wpMoves_step (fun K hK => ?_); go_simp; refine hK _ ?_; clear hK K)
      refine wpMoves_nil ?_
      repeat (refine wpQuiet_step (fun K hK => ?_); go_simp; first | (refine hK _ ?_; clear hK K) | (apply Exists.intro; refine ⟨fun _ => ?_, hK _ ?_⟩; (fail); clear hK K))
      refine wpQuiet_nil ?_
      intro Y hY0
      obtain ⟨g0, hY⟩ := hY0
      have HKY : Hid (Keep (fun _ => False) w Y) := hY ▸ HK.out.trans g0.keep
      have HOY : Hid (Y.ownsRow w.heap.size 5 1 (.slice a (i * 2) cap) (i * 2) (bv (txt (d.take i)))) := hY ▸ ownsRow_keep HO.out g0.keep (fun _ _ _ h => h)
      clear hY g0 i1 i2 e1 e2 HI HK HO
      obtain ⟨q5, hq5⟩ : ∃ q5, Y.heap.size = q5 := ⟨_, rfl⟩
      have HQ5 := Lib.hid hq5
      have hbase : w.heap.size ≤ (Y.alloc (.cells #[.int .u8 (y1.toNat : Int), .int .u8 (y2.toNat : Int)] 5)).heap.size := Nat.le_trans HKY.out.size (by simp)
      go_wp2_with (at_builtin; refine wpList_append_lies _ rfl _ _ 22 rfl w.heap.size 5 ii (.int .u8 0) 1 1 Tryd.underlying22 hi5 hz5 hs5 hby5 rfl (by decide) _ _ _ rfl (HOY.out.alloc _) ⟨q5, 0, none⟩ 2 2 [.int .u8 (y1.toNat : Int), .int .u8 (y2.toNat : Int)] rfl rfl (two_cells (by rw [← HQ5.out]; exact heap_alloc_new _ _)) (by intro u hu; simp only [List.mem_cons, List.not_mem_nil, or_false] at hu; rcases hu with rfl | rfl <;> rfl) (by decide) ?c3 ?c4 hbase _ rfl ?_)
      case c3 => unfold maxLen; omega
      case c4 => omega
      intro g cap' W5 hown hgrow hat hlt5
      have HK5 : Hid (Keep (fun _ => False) w W5) := (HKY.out.allocR _).own (HOY.out.alloc _) hgrow
      have HO5 : Hid (W5.ownsRow w.heap.size 5 1 (.slice (some ⟨g, 0, none⟩) ((i + 1) * 2) cap') ((i + 1) * 2) (bv (txt (d.take (i + 1))))) := by
        rw [HT.out, HH.out, show (i + 1) * 2 = i * 2 + 2 by omega]
        have e : bv (txt (d.take i) ++ [y1, y2]) = bv (txt (d.take i)) ++ [.int .u8 (y1.toNat : Int), .int .u8 (y2.toNat : Int)] := by simp [bv]
        rw [e, HQ.out]; exact hown
      clear hown hgrow hat hlt5
      rw [show i * 2 + 2 = (i + 1) * 2 by omega]
      go_wp2_with fail
      exact ⟨⟨i + 1, some ⟨g, 0, none⟩, cap', by omega, by go_num, rfl, HK5.out, HO5.out⟩, by simp [intOf]; omega⟩
    · have hge : ¬ (i : Int) < 32 := by omega
      have hfl : d.take i = d := List.take_of_length_le (by have := HD.out; omega)
      have hbl := HO.out
      rw [hfl] at hbl
      have hl : i * 2 = (txt d).length := by rw [txt_length, HD.out]; omega
      have hcv := (Bl.ofOwn hbl).conv cap
      rw [← hl] at hcv
      obtain ⟨n2, hn2⟩ : ∃ n2, i * 2 = n2 := ⟨_, rfl⟩
      rw [hn2] at hcv ⊢
      clear hbl hfl hl hn2 HO hlt hi
      go_wp2_with fail
      exact bodyPost_ret (results_tmp Tryd.results14 _ _ _) rfl ⟨rfl, HK.out⟩
end Go.Proofs.YtoeniimgbinflaaDoor
