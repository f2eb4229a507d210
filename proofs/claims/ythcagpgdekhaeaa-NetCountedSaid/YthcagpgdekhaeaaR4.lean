/- The reference's Send: what is refused; a fresh copy of a row of packets. -/
import Derived.Test.YthcagpgdekhaeaaR3
import Derived.BigQuiet
import Derived.Deep.AppendLies
import Derived.Laws.CopyRow
namespace Go.Proofs.Ythcagpgdekhaeaa
open Go.RowKit
theorem quiet_run {P : Program} {C : World → Prop} {a : Act} {o : Oper} {K : Act → Prop} (x : Value) (h : ∀ w, C w → (execOp a.eval o).run P w = .ok (.value x) w) (hk : K (a.put o.dst x)) : o.quiet P a C K :=
  ⟨_, fun w hw => by unfold Oper.quietAt; rw [h w hw]; exact ⟨rfl, rfl⟩, hk⟩
theorem quiet_convert {P : Program} {C : World → Prop} {a : Act} {o : Oper} {K : Act → Prop} {t u : TypeId} {x : Operand} {v : Value} (ho : o.op = .convert t u x) (h : ∀ w, C w → (convert t u (a.eval x)).run P w = .ok v w) (hk : K (a.put o.dst v)) : o.quiet P a C K :=
  quiet_run v (fun w hw => by
    unfold execOp
    rw [ho]
    simp [h w hw]) hk
theorem ownsRow_keep0 {w w' : World} {base : Nat} {e : TypeId} {size : Nat} {v : Value} {n : Nat} {xs : List Value} (h : w.ownsRow base e size v n xs) (k : Keep (fun _ => False) w w') : w'.ownsRow base e size v n xs := ownsRow_keep' h k (fun _ _ h => h)
theorem run_copy_pk (ty : TypeId) (b0 base g : Nat) (ps : List Pk) (v : Value) (w : World) (hb0 : b0 ≤ w.heap.size) (hgb : b0 ≤ g) (hg : w.heap[g]? = some (.cells #[] 34 (0, 0))) (hv : w.ownsRow base 34 2 v ps.length (flat ps)) (h64 : ps.length ≤ 64) :
    ∃ v' w', (Builtin.append_ #[27, 27] ty #[.slice (some ⟨g, 0, none⟩) 0 0, v]).run Try.prog w = .ok v' w' ∧ w'.ownsRow b0 34 2 v' ps.length (flat ps) ∧ Keep (fun _ => False) w w' := by
  obtain ⟨i0, hi, hz0, hz1, hz2⟩ := info_parts Try.info34
  have hown : w.ownsRow b0 34 2 (.slice (some ⟨g, 0, none⟩) 0 0) 0 [] := ⟨rfl, .inr ⟨g, 0, #[], rfl, hgb, hg, Nat.le_refl _, by unfold maxLen; omega, rfl, rfl⟩⟩
  rcases hv.2 with ⟨rfl, hn⟩ | ⟨gv, cap, cur, rfl, hbv, hgv, hc, hm, hs, ht⟩
  · refine ⟨_, w, run_append_owned_none (P := Try.prog) (w := w) b0 27 ty 34 i0 2 Try.underlying27 hi _ 0 [] hown, ?_, Keep.refl _ _⟩
    have : ps = [] := List.length_eq_zero_iff.1 hn
    subst this
    exact hown
  · have hl : (flat ps).length = ps.length * i0.size := by rw [hv.1, hz1]
    have hnews : ∀ j u, (flat ps)[j]? = some u → w.cell? ((⟨gv, 0, none⟩ : Addr).add j) = some u := fun j u hj => by
      have h2 : cur[j]? = some u := by
        rw [← ht, List.getElem?_take] at hj
        split at hj
        · simpa using hj
        · cases hj
      have := cell_of hgv j
      rw [Addr.add_lit]
      simp only [Nat.zero_add]
      rw [this, h2]
    obtain ⟨v', w', hr, h2, h3, -⟩ := run_append_own (P := Try.prog) w b0 27 ty 34 i0 (.agg #[.int .i64 0, .string ⟨#[]⟩]) 2 24 Try.underlying27 hi hz0 hz1 hz2 rfl (by decide) _ 0 [] hown ⟨gv, 0, none⟩ ps.length cap (flat ps) (by rw [hv.1]) hnews (one_flat ps) (by unfold maxLen; omega) (by omega) hb0
    refine ⟨v', w', hr, by simpa using h2, ?_⟩
    by_cases h0 : ps.length = 0
    · have hps : ps = [] := List.length_eq_zero_iff.1 h0
      subst hps
      have hroom := run_append_room (P := Try.prog) w 27 ty 34 i0 Try.underlying27 hi g 0 0 #[] hg ⟨gv, 0, none⟩ 0 cap [] (by simp) (fun j u h => by simp at h) (fun u h => by cases h) (Nat.le_refl _) (by simp)
      have e := hr.symm.trans hroom
      simp only [Result.ok.injEq] at e
      rw [e.2]
      have e2 : w.setRow g ((#[] : Array Value).toList.take (0 * i0.size) ++ [] ++ (#[] : Array Value).toList.drop (0 * i0.size + ([] : List Value).length)).toArray = w := by
        have e3 : ((#[] : Array Value).toList.take (0 * i0.size) ++ [] ++ (#[] : Array Value).toList.drop (0 * i0.size + ([] : List Value).length)).toArray = #[] := by simp
        rw [e3]
        exact setRow_self w g #[] 34 (0, 0) hg
      rw [e2]
      exact Keep.refl _ _
    · have hgrow := run_append_grow (P := Try.prog) w 27 ty 34 i0 (.agg #[.int .i64 0, .string ⟨#[]⟩]) Try.underlying27 hi hz0 ⟨g, 0, none⟩ 0 0 [] (by simp) (fun j u h => by simp at h) ⟨gv, 0, none⟩ ps.length cap (flat ps) hl hnews (by omega) (by omega) (growslice_fits (by omega) (by rw [hz2]; omega))
      have e := hr.symm.trans hgrow
      simp only [Result.ok.injEq] at e
      rw [e.2]
      exact (Keep.drewN _ _ 1).trans (Keep.alloc _ _ _)
end Go.Proofs.Ythcagpgdekhaeaa
