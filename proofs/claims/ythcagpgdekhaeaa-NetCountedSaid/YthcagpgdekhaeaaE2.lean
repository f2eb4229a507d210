/- What NetPlays does: it answers true. -/
import Derived.Test.YthcagpgdekhaeaaE1
import Derived.Test.YthcagpgdekhaeaaN13
namespace Go.Proofs.Ythcagpgdekhaeaa
open Go.RowKit
def st0 : St := ⟨[], 0, 0, 0, 0⟩
theorem fine0 {most : Int} (h : 1 ≤ most) : Fine most st0 0 := ⟨by simp [st0]; omega, by simp [st0], by simp [st0]⟩
theorem duo_new {w W : World} {nb : Nat} {most : Int} (h : Own w W nb most [] 0 0 0 0 none1) (h1 : 1 ≤ most) (h2 : most ≤ 64) : Calls Try.prog 17 #[.int .i64 most] W fun e w' => ∃ rb, e = .returned (.pointer (some ⟨rb, 0, none⟩)) ∧ Duo w w' nb rb most st0 st0 none1 := by
  have hw := h.keep.size
  refine (ref_new most W h1 h2).mono fun e w' ⟨rb, he, hrb, hr, k⟩ => ⟨rb, he, .slice none 0 0, Own.less (Own.fresh h k) (fun i hi => ?_), ⟨hr.block, ownsRow_base hr.row hw⟩, Nat.le_trans hw hrb, fun i hi => hi.elim⟩
  rcases hi with hi | hi | hi
  · exact .inl hi
  · subst hi
    exact .inr ⟨hrb, lt_of_block hr.block⟩
  · simp [Value.ownBlock] at hi
end Go.Proofs.Ythcagpgdekhaeaa
