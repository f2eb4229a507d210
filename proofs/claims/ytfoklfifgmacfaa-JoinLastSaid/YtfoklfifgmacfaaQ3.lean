/- What JoinLast does: it answers true. -/
import Derived.Test.YtfoklfifgmacfaaQ1
import Derived.Test.YtfoklfifgmacfaaQ2
import Derived.Test.YtfoklfifgmacfaaL4
namespace Go.Proofs.Ytfoklfifgmacfaa
open Go.RowKit
def Uniq (l : List C) (k : Nat) : Prop := ∀ (i j : Nat) (x y : C), i < k → l[i]? = some x → l[j]? = some y → j < i → x.n = y.n ∧ x.s = y.s → x = y
def Goods (p : Int) (l : List C) (k : Nat) : Prop := ∀ (i : Nat) (x : C), i < k → l[i]? = some x → x.good p = true
def UniqAt (l : List C) (x : C) (j : Nat) : Prop := ∀ (i : Nat) (y : C), i < j → l[i]? = some y → x.n = y.n ∧ x.s = y.s → x = y
theorem Uniq.next {l : List C} {k : Nat} {x : C} (h : Uniq l k) (hx : l[k]? = some x) (hu : UniqAt l x k) : Uniq l (k + 1) := by
  intro i j a b hi ha hb hj he
  rcases Nat.lt_or_ge i k with h1 | h1
  · exact h i j a b h1 ha hb hj he
  · have : i = k := by omega
    subst this
    have : x = a := Option.some.inj (hx.symm.trans ha)
    subst this
    exact hu j b hj hb he
theorem Goods.next {p : Int} {l : List C} {k : Nat} {x : C} (h : Goods p l k) (hx : l[k]? = some x) (hg : x.good p = true) : Goods p l (k + 1) := by
  intro i a hi ha
  rcases Nat.lt_or_ge i k with h1 | h1
  · exact h i a h1 ha
  · have : i = k := by omega
    subst this
    have : x = a := Option.some.inj (hx.symm.trans ha)
    subst this
    exact hg
theorem UniqAt.next {l : List C} {x y : C} {j : Nat} (h : UniqAt l x j) (hy : l[j]? = some y) (he : x.n = y.n ∧ x.s = y.s → x = y) : UniqAt l x (j + 1) := by
  intro i b hi hb
  rcases Nat.lt_or_ge i j with h1 | h1
  · exact h i b h1 hb
  · have : i = j := by omega
    subst this
    have : y = b := Option.some.inj (hy.symm.trans hb)
    subst this
    exact he
theorem last_law {l : List C} (hg : Goods 1 l l.length) (hu : Uniq l l.length) : C.join l = C.lastS l :=
  join_lastS (fun c hc => by obtain ⟨i, hi, e⟩ := List.getElem_of_mem hc; exact hg i c hi (by rw [List.getElem?_eq_getElem hi, e])) (fun i j x y hx hy hj he => hu i j x y (List.getElem?_eq_some_iff.1 hx).1 hx hy hj he)
set_option maxHeartbeats 8000000 in
set_option maxRecDepth 100000 in
theorem joinlast_walk (l : List C) (a : Option Addr) (cap : Nat) (w : World) (hl : l.length ≤ maxLen) (hcap : l.length ≤ cap) (hc : Cs w a l) :
    Calls Try.prog 6 #[.slice a l.length cap] w fun e w' => e = .returned (.bool true) ∧ Keep (fun _ => False) w w' := by
  obtain ⟨n, hn⟩ : ∃ n, n = l.length := ⟨_, rfl⟩
  have HN := Lib.hid hn
  rw [← hn] at hl hcap ⊢
  have HC := Lib.hid hc
  unfold maxLen at hl
  have HLV : Hid (∀ W, Calls Try.prog 9 #[] W fun e w' => e = .returned (.bool true) ∧ Keep (fun _ => False) W w') := fun W => lives_any W
  clear hn hc
  go_enter Try.func6, Try.ntmps6
  by_cases h60 : 60 < n
  · have h60' : (60 : Int) < n := by omega
    go_wp2_with (go_at_call 9; with_reducible refine (HLV.out _).mono ?_; rintro e w1 ⟨rfl, hk⟩)
    exact bodyPost_ret (by simp [results, Try.results6, go_sem]) rfl ⟨rfl, hk⟩
  · have h60' : ¬ (60 : Int) < n := by omega
    go_upto_region 4 with fail
    obtain ⟨r, hr⟩ : ∃ r, r = w.heap.size := ⟨_, rfl⟩
    rw [← hr]
    generalize hwa : w.alloc (Obj.cells #[.int .i64 0, .int .i64 0, .int .i64 0, .int .i64 0, .bool false, .string ⟨#[]⟩, .int .i64 0, .int .i64 0] 27) = wa
    have H0 : Hid (IsC wa r C.zero) := by rw [← hwa, hr]; exact IsC.new w C.zero
    have K0 : Hid (Keep (fun _ => False) w wa) := by rw [← hwa]; exact Keep.alloc _ _ _
    have HR := Lib.hid hr
    clear hr hwa
    go_wp2_with fail
    go_loopw [19] (fun i wr => ∃ k : Nat, k ≤ n ∧ i = .int .i64 k ∧ IsC wr r (C.lastS (l.take k)) ∧ Keep (fun _ => False) w wr ∧ Goods 1 l k ∧ Uniq l k) (fun i _ => n - (intOf i).toNat)
    case atStart => exact ⟨0, by omega, rfl, H0.out, K0.out, fun i x hi => absurd hi (by omega), fun i j x y hi => absurd hi (by omega)⟩
    case round =>
      obtain ⟨k, hk, rfl, hst, hkp, hgs, hus⟩ := hrel
      have HK := Lib.hid hkp
      have HGS := Lib.hid hgs
      have HUS := Lib.hid hus
      have HL := Lib.hid (HC.out.keep0 hkp)
      have HY := Lib.hid hst
      clear hkp H0 K0 hgs hus hst
      by_cases hlt : k < n
      · obtain ⟨x, hx⟩ : ∃ x, l[k]? = some x := ⟨_, List.getElem?_eq_getElem (by rw [← HN.out]; exact hlt)⟩
        obtain ⟨b, o, rfl, d0, d1, d2, d3, d4, d5, d6, d7⟩ := HL.out k x hx
        have HX := Lib.hid hx
        have HS := Lib.hid (lastS_step l k x hx)
        generalize C.lastS (l.take k) = y at *
        have hp : (0 : Int) ≤ k := by omega
        have hlt' : (k : Int) < n := by omega
        clear hx
        have HG : Hid (∀ w, Calls Try.prog 16 #[.int .i64 1, .agg #[.int .i64 x.n, .int .i64 x.s, .int .i64 x.v0, .int .i64 x.v1, .bool x.gone, .string x.value, .int .i64 x.d0, .int .i64 x.d1]] w fun e w' => e = .returned (.bool (x.good 1)) ∧ Keep (fun _ => False) w w') := fun w => good_c 1 x w
        obtain ⟨bg, hbg⟩ : ∃ bg, x.good 1 = bg := ⟨_, rfl⟩
        rw [hbg] at HG
        have HBG := Lib.hid hbg
        clear hbg
        go_upto_region 7 with fail
        generalize hwx : wr.alloc (Obj.cells #[.int .i64 x.n, .int .i64 x.s, .int .i64 x.v0, .int .i64 x.v1, .bool x.gone, .string x.value, .int .i64 x.d0, .int .i64 x.d1] 27) = wx
        obtain ⟨q, hq⟩ : ∃ q, q = wr.heap.size := ⟨_, rfl⟩
        rw [← hq]
        have kx : Keep (fun _ => False) wr wx := by rw [← hwx]; exact Keep.alloc _ _ _
        have HQ : Hid (IsC wx q x) := by rw [← hwx, hq]; exact IsC.new wr x
        have HY' := Lib.hid (HY.out.keep0 kx)
        have HK' := Lib.hid (HK.out.trans kx)
        clear hwx hq kx d0 d1 d2 d3 d4 d5 d6 d7 HY HK HL
        obtain ⟨q0, q1, q2, q3, q4, q5, q6, q7⟩ := HQ.out.cells
        cases bg
        · go_wp2_with (first | (go_at_call 16; with_reducible refine (HG.out _).mono ?_; rintro e w1 ⟨rfl, hk1⟩; have HK1 := Lib.hid (HK'.out.trans hk1); clear hk1) | (go_at_call 9; with_reducible refine (HLV.out _).mono ?_; rintro e w2 ⟨rfl, hk2⟩; have HK2 := Lib.hid (HK1.out.trans hk2); clear hk2))
          exact bodyPost_ret (by simp [results, Try.results6, go_sem]) rfl ⟨rfl, HK2.out⟩
        · have hkc : (k : Int) ≤ cap := by omega
          go_wp2_with (go_at_call 16; with_reducible refine (HG.out _).mono ?_; rintro e w1 ⟨rfl, hk1⟩; have HK1 := Lib.hid (HK'.out.trans hk1); have HY1 := Lib.hid (HY'.out.keep0 hk1); have HQ1 := Lib.hid (HQ.out.keep0 hk1); clear hk1 q0 q1 q2 q3 q4 q5 q6 q7)
          go_loopw [32] (fun i wq => ∃ j : Nat, j ≤ k ∧ i = .int .i64 j ∧ IsC wq q x ∧ IsC wq r y ∧ Keep (fun _ => False) w wq ∧ UniqAt l x j) (fun i _ => k - (intOf i).toNat)
          case atStart => exact ⟨0, by omega, rfl, HQ1.out, HY1.out, HK1.out, fun i x hi => absurd hi (by omega)⟩
          case round =>
            obtain ⟨j, hj, rfl, hqx, hry, hkq, huj⟩ := hrel
            have HQ2 := Lib.hid hqx
            have HY2 := Lib.hid hry
            have HK2 := Lib.hid hkq
            have HU2 := Lib.hid huj
            have HL2 := Lib.hid (HC.out.keep0 hkq)
            clear hqx hry hkq huj
            by_cases hjk : j < k
            · obtain ⟨z, hz⟩ : ∃ z, l[j]? = some z := ⟨_, List.getElem?_eq_getElem (by have := HN.out; omega)⟩
              obtain ⟨b', o', he, d0, d1, d2, d3, d4, d5, d6, d7⟩ := HL2.out j z hz
              simp only [Option.some.injEq, Addr.mk.injEq, and_true] at he
              obtain ⟨rfl, rfl⟩ := he
              have HZL := Lib.hid hz
              have hpj : (0 : Int) ≤ j := by omega
              have hjk' : (j : Int) < k := by omega
              clear hz
              go_upto_region 12 with fail
              generalize hwx : World.alloc _ (Obj.cells #[.int .i64 z.n, .int .i64 z.s, .int .i64 z.v0, .int .i64 z.v1, .bool z.gone, .string z.value, .int .i64 z.d0, .int .i64 z.d1] 27) = wx
              obtain ⟨q7, hq7⟩ : ∃ q, q = wr.heap.size := ⟨_, rfl⟩
              rw [← hq7]
              have kx : Keep (fun _ => False) wr wx := by rw [← hwx]; exact Keep.alloc _ _ _
              have HZ3 : Hid (IsC wx q7 z) := by rw [← hwx, hq7]; exact IsC.new wr z
              have HY3 := Lib.hid (HY2.out.keep0 kx)
              have HQ3 := Lib.hid (HQ2.out.keep0 kx)
              have HK3 := Lib.hid (HK2.out.trans kx)
              clear hwx hq7 kx d0 d1 d2 d3 d4 d5 d6 d7 HY2 HK2 HQ2 HL2
              obtain ⟨q0, q1, q2, q3, q4, q5, q6, q7⟩ := HQ3.out.cells
              obtain ⟨z0, z1, z2, z3, z4, z5, z6, z7⟩ := HZ3.out.cells
              have H23 := fun w => equalIn23 9998 x.n x.s z.n z.s w
              have H27 := fun w => equalIn27 9997 x z w
              obtain ⟨r1, hr1⟩ : ∃ r1, decide (x.n = z.n ∧ x.s = z.s) = r1 := ⟨_, rfl⟩
              obtain ⟨r2, hr2⟩ : ∃ r2, decide (x = z) = r2 := ⟨_, rfl⟩
              rw [hr1] at H23
              rw [hr2] at H27
              have HR1 := Lib.hid hr1
              have HR2 := Lib.hid hr2
              clear hr1 hr2
              cases r1
              · go_wp2_with fail
                go_roundw
                case rel => exact ⟨j + 1, by omega, by go_num, HQ3.out, HY3.out, HK3.out, HU2.out.next HZL.out (fun he => absurd he (of_decide_eq_false HR1.out))⟩
                case measure => simp [intOf] <;> omega
              · cases r2
                · go_wp2_with (go_at_call 9; with_reducible refine (HLV.out _).mono ?_; rintro e w2 ⟨rfl, hk2⟩; have HK4 := Lib.hid (HK3.out.trans hk2); clear hk2)
                  exact bodyPost_ret (by simp [results, Try.results6, go_sem]) rfl ⟨rfl, HK4.out⟩
                · go_wp2_with fail
                  go_roundw
                  case rel => exact ⟨j + 1, by omega, by go_num, HQ3.out, HY3.out, HK3.out, HU2.out.next HZL.out (fun _ => of_decide_eq_true HR2.out)⟩
                  case measure => simp [intOf] <;> omega
            · have hjk' : ¬ (j : Int) < k := by omega
              have HU3 : Hid (UniqAt l x k) := by have : j = k := (by omega); rw [← this]; exact HU2.out
              obtain ⟨q0, q1, q2, q3, q4, q5, q6, q7⟩ := HQ2.out.cells
              obtain ⟨y0, y1, y2, y3, y4, y5, y6, y7⟩ := HY2.out.cells
              have fz := HY2.out.free
              clear hkc hp HL2 HU2
              by_cases s1 : y.n < x.n
              · have HSL : Hid (sless y.n y.s x.n x.s = true) := by unfold Hid sless; simp [s1]
                go_wp2_with fail
                go_roundw
                case rel => exact ⟨k + 1, by omega, by go_num, by rw [HS.out, C.later, if_pos HSL.out]; exact HY2.out.set x, HK2.out.step (Keep.set8 _ r x) (fun i hi => .inr (by have := HR.out; omega)), HGS.out.next HX.out HBG.out, HUS.out.next HX.out HU3.out⟩
                case measure => simp [intOf] <;> omega
              · by_cases s2 : y.n = x.n
                · have e2 : (y.n == x.n) = true := by simpa using s2
                  have S2 := Lib.hid s2
                  clear s2
                  by_cases s3 : y.s < x.s
                  · have HSL : Hid (sless y.n y.s x.n x.s = true) := by unfold Hid sless; simp [S2.out, s3]
                    go_wp2_with fail
                    go_roundw
                    case rel => exact ⟨k + 1, by omega, by go_num, by rw [HS.out, C.later, if_pos HSL.out]; exact HY2.out.set x, HK2.out.step (Keep.set8 _ r x) (fun i hi => .inr (by have := HR.out; omega)), HGS.out.next HX.out HBG.out, HUS.out.next HX.out HU3.out⟩
                    case measure => simp [intOf] <;> omega
                  · have HSL : Hid (¬ sless y.n y.s x.n x.s = true) := by unfold Hid sless; simp [S2.out, s3]
                    go_wp2_with fail
                    go_roundw
                    case rel => exact ⟨k + 1, by omega, by go_num, by rw [HS.out, C.later, if_neg HSL.out]; exact HY2.out, HK2.out, HGS.out.next HX.out HBG.out, HUS.out.next HX.out HU3.out⟩
                    case measure => simp [intOf] <;> omega
                · have e2 : (y.n == x.n) = false := by simpa using s2
                  have HSL : Hid (¬ sless y.n y.s x.n x.s = true) := by unfold Hid sless; simp [s1, s2]
                  clear s2
                  go_wp2_with fail
                  go_roundw
                  case rel => exact ⟨k + 1, by omega, by go_num, by rw [HS.out, C.later, if_neg HSL.out]; exact HY2.out, HK2.out, HGS.out.next HX.out HBG.out, HUS.out.next HX.out HU3.out⟩
                  case measure => simp [intOf] <;> omega
      · obtain rfl : k = n := by omega
        have hjl := last_law (by rw [← HN.out]; exact HGS.out) (by rw [← HN.out]; exact HUS.out)
        have hall : l.take k = l := by rw [HN.out]; exact List.take_length
        rw [hall] at HY
        have HJ : Hid (∀ W, Keep (fun _ => False) w W → Calls Try.prog 12 #[.slice a k cap] W fun e w' => e = .returned (C.lastS l).v ∧ Keep (fun _ => False) W w') := fun W kw => by
          rw [← hjl, HN.out]
          exact join_any l a cap W (by have := HN.out; omega) (HC.out.keep0 kw)
        generalize C.lastS l = z at *
        have HJ' : Hid (∀ W, Keep (fun _ => False) w W → Calls Try.prog 12 #[.slice a k cap] W fun e w' => e = .returned (.agg #[.int .i64 z.n, .int .i64 z.s, .int .i64 z.v0, .int .i64 z.v1, .bool z.gone, .string z.value, .int .i64 z.d0, .int .i64 z.d1]) ∧ Keep (fun _ => False) W w') := HJ.out
        have HSN : Hid (∀ W, Calls Try.prog 17 #[.int .i64 1, .agg #[.int .i64 z.n, .int .i64 z.s, .int .i64 z.v0, .int .i64 z.v1, .bool z.gone, .string z.value, .int .i64 z.d0, .int .i64 z.d1]] W fun e w' => e = .returned (.tuple #[.string (z.sight 1), .bool (z.shows 1)]) ∧ Keep (fun _ => False) W w') := fun W => seen_c 1 z W
        generalize z.sight 1 = st at *
        generalize z.shows 1 = sb at *
        obtain ⟨y0, y1, y2, y3, y4, y5, y6, y7⟩ := HY.out.cells
        clear hjl hall HL HJ hlt
        go_wp2_with (first
          | (go_at_call 12; with_reducible refine (HJ'.out _ HK.out).mono ?_; rintro e w2 ⟨rfl, hk⟩; have HK := Lib.hid (HK.out.trans hk); have HY := Lib.hid (HY.out.keep0 hk); clear hk y0 y1 y2 y3 y4 y5 y6 y7; obtain ⟨y0, y1, y2, y3, y4, y5, y6, y7⟩ := HY.out.cells)
          | (go_at_call 17; with_reducible refine (HSN.out _).mono ?_; rintro e w2 ⟨rfl, hk⟩; have HK := Lib.hid (HK.out.trans hk); have HY := Lib.hid (HY.out.keep0 hk); clear hk y0 y1 y2 y3 y4 y5 y6 y7; obtain ⟨y0, y1, y2, y3, y4, y5, y6, y7⟩ := HY.out.cells)
          | (go_at_call 9; with_reducible refine (HLV.out _).mono ?_; rintro e w2 ⟨rfl, hk⟩; have HK := Lib.hid (HK.out.trans hk); clear hk))
        exact bodyPost_ret (by simp [results, Try.results6, go_sem]) rfl ⟨rfl, HK.out⟩
end Go.Proofs.Ytfoklfifgmacfaa
