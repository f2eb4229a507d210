/- The reference: bytes with what comes behind them. -/
import Derived.Test.YtoeniimgbinflaaDoorT2
namespace Go.Proofs.YtoeniimgbinflaaDoor
open Go.RowKit
theorem run_copy_bl (ty : TypeId) (b0 g : Nat) (xs : List UInt8) (a : Option Addr) (cap : Nat) (w : World) (hb0 : b0 ≤ w.heap.size) (hgb : b0 ≤ g) (hg : w.heap[g]? = some (.cells #[] 5 (0, 0))) (hb : Bl w a xs) (hn : xs.length ≤ 500000000) :
    ∃ g' cap' w', (Builtin.append_ #[22, 22] ty #[.slice (some ⟨g, 0, none⟩) 0 0, .slice a xs.length cap]).run Tryd.prog w = .ok (.slice (some ⟨g', 0, none⟩) xs.length cap') w' ∧ w'.ownsRow b0 5 1 (.slice (some ⟨g', 0, none⟩) xs.length cap') xs.length (bv xs) ∧ Keep (fun _ => False) w w' := by
  obtain ⟨i0, hi, hz0, hz2, hz1⟩ := info5
  have hown : w.ownsRow b0 5 1 (.slice (some ⟨g, 0, none⟩) 0 0) 0 [] := ⟨rfl, .inr ⟨g, 0, #[], rfl, hgb, hg, Nat.le_refl _, by unfold maxLen; omega, rfl, rfl⟩⟩
  by_cases h0 : xs.length = 0
  · obtain rfl := List.eq_nil_of_length_eq_zero h0
    refine ⟨g, 0, w, ?_, hown, Keep.refl _ _⟩
    cases a with
    | none => simp [Builtin.append_, run_underlying Tryd.underlying22, sizeOf, typeInfo, hi, Builtin.lenOf, Builtin.firstCells, storeCells]
    | some ad =>
      have hroom := run_append_room (P := Tryd.prog) w 22 ty 5 i0 Tryd.underlying22 hi g 0 0 #[] hg ad 0 cap [] (by simp) (fun j u h => by simp at h) (fun u h => by cases h) (Nat.le_refl _) (by simp)
      rw [List.length_nil, hroom]
      have e3 : ((#[] : Array Value).toList.take (0 * i0.size) ++ [] ++ (#[] : Array Value).toList.drop (0 * i0.size + ([] : List Value).length)).toArray = #[] := by simp
      rw [e3, setRow_self w g #[] 5 (0, 0) hg]
  · obtain ⟨b, o, rfl, _⟩ := hb 0 _ (List.getElem?_eq_getElem (by omega))
    have hl : (bv xs).length = xs.length * i0.size := by rw [bv_length, hz1]; omega
    have hnews : ∀ j u, (bv xs)[j]? = some u → w.cell? ((⟨b, o, none⟩ : Addr).add j) = some u := fun j u hj => by
      unfold bv at hj
      rw [List.getElem?_map, Option.map_eq_some_iff] at hj
      obtain ⟨x, hx, rfl⟩ := hj
      obtain ⟨b', o', e, hc⟩ := hb j x hx
      simp only [Option.some.injEq, Addr.mk.injEq, and_true] at e
      obtain ⟨rfl, rfl⟩ := e
      rw [Addr.add_lit, hc]
    obtain ⟨v', w', hr, h2, -, -⟩ := run_append_own (P := Tryd.prog) w b0 22 ty 5 i0 (.int .u8 0) 1 1 Tryd.underlying22 hi hz0 hz1 hz2 rfl (by decide) _ 0 [] hown ⟨b, o, none⟩ xs.length cap (bv xs) (by rw [bv_length]; omega) hnews (bv_one xs) (by unfold maxLen; omega) (by omega) hb0
    have hgrow := run_append_grow (P := Tryd.prog) w 22 ty 5 i0 (.int .u8 0) Tryd.underlying22 hi hz0 ⟨g, 0, none⟩ 0 0 [] (by simp) (fun j u h => by simp at h) ⟨b, o, none⟩ xs.length cap (bv xs) hl hnews (by omega) (by omega) (growslice_fits (by omega) (by rw [hz2]; omega))
    have e := hr.symm.trans hgrow
    simp only [Result.ok.injEq, Nat.zero_add] at e
    obtain ⟨e1, e2⟩ := e
    subst e1
    refine ⟨_, _, w', hr, by simpa using h2, ?_⟩
    rw [e2]
    exact (Keep.drewN _ _ 1).trans (Keep.alloc _ _ _)
theorem wpList_copy_bl {w : World} {ops : Array Oper} {rest : List Oper} {o : Oper} {a : Act} {Q : Exit → Act → World → Prop} (hgd : o.guard = none) (s x : Operand)
    (ho : o.op = .call { callee := .builtin .append, args := #[s, x], argTypes := #[22, 22] })
    (b0 g : Nat) (bs : List UInt8) (n : Nat) (hl : bs.length = n) (ad : Option Addr) (cap : Nat) (hs : a.eval s = .slice (some ⟨g, 0, none⟩) 0 0) (hx : a.eval x = .slice ad n cap) (hb0 : b0 ≤ w.heap.size) (hgb : b0 ≤ g) (hg : w.heap[g]? = some (.cells #[] 5 (0, 0))) (hb : Bl w ad bs) (hn : bs.length ≤ 500000000)
    (h : ∀ g' cap' w', w'.ownsRow b0 5 1 (.slice (some ⟨g', 0, none⟩) n cap') n (bv bs) → Keep (fun _ => False) w w' → wpList Tryd.prog ops Q rest (a.put o.dst (.slice (some ⟨g', 0, none⟩) n cap')) w') : wpList Tryd.prog ops Q (o :: rest) a w := by
  subst hl
  refine wpList_plain hgd fun K hK => ?_
  obtain ⟨g', cap', w', hrun, h1, h2⟩ := run_copy_bl o.type b0 g bs ad cap w hb0 hgb hg hb hn
  unfold Oper.wp
  have hex : (execOp a.eval o).run Tryd.prog w = .ok (.value (.slice (some ⟨g', 0, none⟩) bs.length cap')) w' := by
    unfold execOp
    simp only [ho, resolve, invoke, builtin, Sem.run_bind, Sem.run_pure, Result.andThen_ok, List.map_toArray, List.map_cons, List.map_nil, hs, hx, hrun]
  rw [hex]
  exact hK _ _ (h _ _ _ h1 h2)
theorem bv_snoc (xs : List UInt8) (x : UInt8) : bv xs ++ [.int .u8 (x.toNat : Int)] = bv (xs ++ [x]) := by simp [bv]
theorem len8_take (n i : Nat) (h : i < 8) : (len8 n).take (i + 1) = (len8 n).take i ++ [lb n i] := by
  match i, h with
  | 0, _ => rfl
  | 1, _ => rfl
  | 2, _ => rfl
  | 3, _ => rfl
  | 4, _ => rfl
  | 5, _ => rfl
  | 6, _ => rfl
  | 7, _ => rfl
set_option maxHeartbeats 4000000 in
set_option maxRecDepth 100000 in
theorem message_any (w : World) (a : Option Addr) (cap : Nat) (xs : List UInt8) (hb : Bl w a xs) (hn : xs.length ≤ 100000000) : Calls Tryd.prog 18 #[.slice a xs.length cap] w fun e w' => ∃ a' cap', e = .returned (.slice a' (padded xs).length cap') ∧ w'.ownsRow w.heap.size 5 1 (.slice a' (padded xs).length cap') (padded xs).length (bv (padded xs)) ∧ Keep (fun _ => False) w w' := by
  obtain ⟨q, hq⟩ : ∃ q, w.heap.size = q := ⟨_, rfl⟩
  have HQ := Lib.hid hq
  obtain ⟨n, hnl⟩ : ∃ n, xs.length = n := ⟨_, rfl⟩
  have HN := Lib.hid hnl
  have HBL := Lib.hid hb
  obtain ⟨ii, hi5, hz5, hby5, hs5⟩ := info5
  rw [hq, hnl]
  rw [hnl] at hn
  clear hb hnl
  obtain ⟨X, hX⟩ : ∃ X, w.alloc (.cells #[] 5) = X := ⟨_, rfl⟩
  have HX : Hid (Keep (fun _ => False) w X) := by rw [← hX]; exact Keep.alloc _ _ _
  have hx0 : X.heap[q]? = some (.cells #[] 5 (0, 0)) := by rw [← hX, ← hq]; exact heap_alloc_new _ _
  have hbx : q ≤ X.heap.size := by rw [← hq]; exact HX.out.size
  go_enter Tryd.func18, Tryd.ntmps18
  go_wp2_with (at_builtin; refine wpList_copy_bl rfl _ _ rfl q q xs n HN.out a cap rfl rfl hbx (Nat.le_refl _) hx0 (HBL.out.keep0 HX.out) (by rw [HN.out]; omega) ?_)
  intro g1 cap1 W1 hown1 hk1
  have HO1 := Lib.hid hown1
  have HK1 : Hid (Keep (fun _ => False) w W1) := HX.out.trans hk1
  have hbase : q ≤ (W1.alloc (.cells #[.int .u8 128] 5)).heap.size := Nat.le_trans (by rw [← HQ.out]; exact HK1.out.size) (by simp : W1.heap.size ≤ _)
  clear hown1 hk1 hX hx0 hbx HX hq
  go_wp2_with (at_builtin; refine wpList_append_lies _ rfl _ _ 22 rfl q 5 ii (.int .u8 0) 1 1 Tryd.underlying22 hi5 hz5 hs5 hby5 rfl (by decide) _ _ _ rfl (HO1.out.alloc _) ⟨W1.heap.size, 0, none⟩ 1 1 [.int .u8 128] rfl rfl (one_cell (heap_alloc_new _ _)) (by intro u hu; simp only [List.mem_cons, List.not_mem_nil, or_false] at hu; subst hu; rfl) (by decide) ?c3 ?c4 hbase _ rfl ?_)
  case c3 => unfold maxLen; omega
  case c4 => omega
  intro g2 cap2 W2 hown2 hgrow2 _ _
  have HK2 : Hid (Keep (fun _ => False) w W2) := (HK1.out.allocR _).own (by rw [HQ.out]; exact HO1.out.alloc _) hgrow2
  have HO2 : Hid (W2.ownsRow q 5 1 (.slice (some ⟨g2, 0, none⟩) (n + 1) cap2) (n + 1) (bv (xs ++ [128]))) := by rw [← bv_snoc]; exact hown2
  clear hown2 hgrow2 HO1 HK1 hbase
  go_wp2_with fail
  go_loopw [3] (fun t3 wr => ∃ (j g cap : Nat), j ≤ padz n ∧ t3 = .slice (some ⟨g, 0, none⟩) (n + 1 + j) cap ∧ Keep (fun _ => False) w wr ∧ wr.ownsRow q 5 1 (.slice (some ⟨g, 0, none⟩) (n + 1 + j) cap) (n + 1 + j) (bv (xs ++ [128] ++ List.replicate j 0))) (fun t3 _ => padz n + n + 1 - sliceLen t3)
  case atStart => exact ⟨0, g2, cap2, Nat.zero_le _, rfl, HK2.out, by rw [List.replicate_zero, List.append_nil]; exact HO2.out⟩
  case round =>
    obtain ⟨j, g, cp, hj, rfl, hk, ho⟩ := hrel
    have HK := Lib.hid hk
    have HO := Lib.hid ho
    clear hk ho
    obtain ⟨z, hz⟩ : ∃ z, padz n = z := ⟨_, rfl⟩
    have HZ := Lib.hid hz
    unfold padz at hz
    rw [HZ.out] at hj
    obtain ⟨k, hkk⟩ : ∃ k, n + 1 + j = k := ⟨_, rfl⟩
    obtain ⟨r, hr⟩ : ∃ r, k % 64 = r := ⟨_, rfl⟩
    have r1 : (k : Int).tmod 64 = r := by rw [Int.tmod_eq_emod_of_nonneg (by omega)]; omega
    rw [hkk]
    by_cases h56 : r = 56
    · have hjz : j = z := by omega
      have HKZ : Hid (n + 1 + z = k) := Lib.hid (by rw [← hjz]; exact hkk)
      subst h56
      subst hjz
      have HOZ : Hid (wr.ownsRow q 5 1 (.slice (some ⟨g, 0, none⟩) k cp) k (bv (xs ++ [128] ++ List.replicate j 0))) := by rw [← hkk]; exact HO.out
      have r2 : (k : Int).tmod 64 = 56 := r1
      have w8 : wrap64 (8 * (n : Int)) = 8 * n := by unfold wrap64; omega
      have hk9 : k ≤ 200000000 := by omega
      clear HO hj hr hz r1 hkk
      go_wp2_with fail
      obtain ⟨L, hL⟩ : ∃ L, xs ++ [128] ++ List.replicate j 0 = L := ⟨_, rfl⟩
      have HL := Lib.hid hL
      rw [hL] at HOZ
      have HPL : Hid (padded xs = L ++ len8 n) := Lib.hid (by unfold padded; rw [HN.out, HZ.out, hL])
      have HPN : Hid ((padded xs).length = k + 8) := Lib.hid (by rw [HPL.out, List.length_append, show (len8 n).length = 8 from rfl, ← hL, List.length_append, List.length_append, HN.out, List.length_replicate, ← HKZ.out]; rfl)
      have HK4 := Lib.hid HK.out
      clear hL HK r2 w8
      go_loopw [3, 5] (fun t3 t5 wr => ∃ (m g cap : Nat), m ≤ 8 ∧ t5 = .int .i64 ((m : Int) - 1) ∧ t3 = .slice (some ⟨g, 0, none⟩) (k + (8 - m)) cap ∧ Keep (fun _ => False) w wr ∧ wr.ownsRow q 5 1 (.slice (some ⟨g, 0, none⟩) (k + (8 - m)) cap) (k + (8 - m)) (bv (L ++ (len8 n).take (8 - m)))) (fun _ t5 _ => (intOf t5 + 1).toNat)
      case atStart => exact ⟨8, g, cp, Nat.le_refl _, rfl, rfl, HK4.out, by rw [Nat.sub_self, List.take_zero, List.append_nil]; exact HOZ.out⟩
      case round =>
        obtain ⟨m, g, cp, hm, rfl, rfl, hk, ho⟩ := hrel
        have HK := Lib.hid hk
        have HO := Lib.hid ho
        clear hk ho
        by_cases hm0 : m = 0
        · subst hm0
          have HOE : Hid (wr.ownsRow q 5 1 (.slice (some ⟨g, 0, none⟩) (padded xs).length cp) (padded xs).length (bv (padded xs))) := by rw [HPN.out, HPL.out]; exact HO.out
          have hlen := HPN.out
          go_wp2_with fail
          exact bodyPost_ret (results_tmp Tryd.results18 _ _ _) rfl ⟨some ⟨g, 0, none⟩, cp, by rw [hlen]; rfl, HOE.out, HK.out⟩
        · obtain ⟨m', rfl⟩ : ∃ m', m = m' + 1 := ⟨m - 1, by omega⟩
          rw [show ((m' + 1 : Nat) : Int) - 1 = m' by omega]
          obtain ⟨i, hi⟩ : ∃ i, 8 - (m' + 1) = i := ⟨_, rfl⟩
          have hi8 : i < 8 := by omega
          rw [hi]
          have HO1 : Hid (wr.ownsRow q 5 1 (.slice (some ⟨g, 0, none⟩) (k + i) cp) (k + i) (bv (L ++ (len8 n).take i))) := by rw [← hi]; exact HO.out
          obtain ⟨L1, hL1⟩ : ∃ L1, L ++ (len8 n).take i = L1 := ⟨_, rfl⟩
          have HL1 : Hid (L ++ (len8 n).take (i + 1) = L1 ++ [lb n i]) := Lib.hid (by rw [len8_take n i hi8, ← List.append_assoc, hL1])
          rw [hL1] at HO1
          have hv := lb_val n i
          rw [show 56 - 8 * i = 8 * m' by omega] at hv
          have hm8 : (m' : Int) ≤ 7 := by omega
          generalize lb n i = bt at *
          have hbase : q ≤ (wr.alloc (.cells #[.int .u8 (bt.toNat : Int)] 5)).heap.size := Nat.le_trans (by rw [← HQ.out]; exact HK.out.size) (by simp : wr.heap.size ≤ _)
          have HI : Hid (8 - (m' + 1) = i ∧ m' + 1 ≤ 8) := ⟨hi, hm⟩
          have hki : k + i ≤ 300000000 := by omega
          clear hi hm hL1 HO hm0 hn hk9
          go_wp2_with (at_builtin; refine wpList_append_lies _ rfl _ _ 22 rfl q 5 ii (.int .u8 0) 1 1 Tryd.underlying22 hi5 hz5 hs5 hby5 rfl (by decide) _ _ _ rfl (HO1.out.alloc _) ⟨wr.heap.size, 0, none⟩ 1 1 [.int .u8 (bt.toNat : Int)] rfl rfl (one_cell (heap_alloc_new _ _)) (by intro u hu; simp only [List.mem_cons, List.not_mem_nil, or_false] at hu; subst hu; rfl) (by decide) ?c3 ?c4 hbase _ rfl ?_)
          case c3 => unfold maxLen; omega
          case c4 => omega
          intro g3 cap3 W3 hown3 hgrow3 _ _
          have HK3 : Hid (Keep (fun _ => False) w W3) := (HK.out.allocR _).own (by rw [HQ.out]; exact HO1.out.alloc _) hgrow3
          have he : 8 - m' = i + 1 := by have := HI.out; omega
          have HO3 : Hid (W3.ownsRow q 5 1 (.slice (some ⟨g3, 0, none⟩) (k + (8 - m')) cap3) (k + (8 - m')) (bv (L ++ (len8 n).take (8 - m')))) := by
            rw [he, HL1.out, ← bv_snoc, ← Nat.add_assoc]; exact hown3
          have HT3 : Hid (Value.slice (some ⟨g3, 0, none⟩) (k + i + 1) cap3 = Value.slice (some ⟨g3, 0, none⟩) (k + (8 - m')) cap3) := Lib.hid (by rw [he, Nat.add_assoc])
          clear hown3 hgrow3 he
          go_wp2_with fail
          refine ⟨⟨m', g3, cap3, by have := HI.out; omega, rfl, HT3.out, HK3.out, HO3.out⟩, ?_⟩
          simp only [intOf]
          omega
    · have hjz : j < z := by omega
      have h56' : ¬ (r : Int) = 56 := by omega
      have hbase : q ≤ (wr.alloc (.cells #[.int .u8 0] 5)).heap.size := Nat.le_trans (by rw [← HQ.out]; exact HK.out.size) (by simp : wr.heap.size ≤ _)
      obtain ⟨L, hL⟩ : ∃ L, xs ++ [128] ++ List.replicate j 0 = L := ⟨_, rfl⟩
      have HL : Hid (xs ++ [128] ++ List.replicate (j + 1) 0 = L ++ [0]) := Lib.hid (by rw [List.replicate_succ', ← List.append_assoc, hL])
      have HO' : Hid (wr.ownsRow q 5 1 (.slice (some ⟨g, 0, none⟩) k cp) k (bv L)) := by rw [← hkk, ← hL]; exact HO.out
      have hk9 : k ≤ 200000000 := by omega
      have HJ : Hid (j < z ∧ n + 1 + j = k) := ⟨hjz, hkk⟩
      clear hr hz hj HO hjz hkk h56 hL
      go_wp2_with (at_builtin; refine wpList_append_lies _ rfl _ _ 22 rfl q 5 ii (.int .u8 0) 1 1 Tryd.underlying22 hi5 hz5 hs5 hby5 rfl (by decide) _ _ _ rfl (HO'.out.alloc _) ⟨wr.heap.size, 0, none⟩ 1 1 [.int .u8 0] rfl rfl (one_cell (heap_alloc_new _ _)) (by intro u hu; simp only [List.mem_cons, List.not_mem_nil, or_false] at hu; subst hu; rfl) (by decide) ?c3 ?c4 hbase _ rfl ?_)
      case c3 => unfold maxLen; omega
      case c4 => omega
      intro g3 cap3 W3 hown3 hgrow3 _ _
      have HK3 : Hid (Keep (fun _ => False) w W3) := (HK.out.allocR _).own (by rw [HQ.out]; exact HO'.out.alloc _) hgrow3
      have HO3 : Hid (W3.ownsRow q 5 1 (.slice (some ⟨g3, 0, none⟩) (n + 1 + (j + 1)) cap3) (n + 1 + (j + 1)) (bv (xs ++ [128] ++ List.replicate (j + 1) 0))) := by
        rw [show n + 1 + (j + 1) = k + 1 by have := HJ.out.2; omega, HL.out, ← bv_snoc]; exact hown3
      clear hown3 hgrow3 HO'
      go_wp2_with fail
      refine ⟨⟨j + 1, g3, cap3, by rw [HZ.out]; exact HJ.out.1, by rw [← HJ.out.2]; rfl, HK3.out, HO3.out⟩, ?_⟩
      have := HJ.out
      simp only [sliceLen, HZ.out]
      omega
end Go.Proofs.YtoeniimgbinflaaDoor
