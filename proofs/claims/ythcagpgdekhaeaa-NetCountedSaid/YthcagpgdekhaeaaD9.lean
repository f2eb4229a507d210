/- One act, whichever. -/
import Derived.Test.YthcagpgdekhaeaaD4
import Derived.Test.YthcagpgdekhaeaaD5
import Derived.Test.YthcagpgdekhaeaaD6
import Derived.Test.YthcagpgdekhaeaaD8
namespace Go.Proofs.Ythcagpgdekhaeaa
open Go.RowKit
theorem do_any {w W : World} {nb rb : Nat} {most : Int} {st : St} {P : Nat → Prop} (n : Nat) (hm : 1 ≤ most) (h64 : most ≤ 64) (hf : Fine most st n) (hn : n ≤ 1000000) (h : Duo w W nb rb most st st P) (x : A) (hbs : Bs w x.da x.s) (hsz : x.s.size ≤ 1000000) : Calls Try.prog 18 #[.pointer (some ⟨nb, 0, none⟩), .pointer (some ⟨rb, 0, none⟩), x.v] W (DoneDuo w nb rb most st P W) := by
  by_cases h0 : x.kd = 0
  · exact do_send n hm h64 hf hn h x h0 hbs hsz
  · by_cases h1 : x.kd = 1
    · exact do_take n hm h64 hf hn h x h1
    · by_cases h2 : x.kd = 2
      · exact do_drop n hm h64 hf hn h x h2
      · by_cases h3 : x.kd = 3
        · exact do_twice n hm h64 hf hn h x h3
        · by_cases h4 : x.kd = 4
          · exact do_turn n hm h64 hf h x h4
          · exact do_look n hm h64 hf h x ⟨h0, h1, h2, h3, h4⟩
end Go.Proofs.Ythcagpgdekhaeaa
