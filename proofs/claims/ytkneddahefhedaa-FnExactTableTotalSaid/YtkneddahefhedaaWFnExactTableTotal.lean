/- The walk of the law FnExactTableTotal: for every table it returns true and leaves old memory alone. -/
import Derived.Test.YtkneddahefhedaaSumsA
import Derived.Test.YtkneddahefhedaaToIntSS
import Derived.Test.YtkneddahefhedaaSzInt
namespace Go.Proofs.Ytkneddahefhedaa.fnExactTableTotal
open Go.RowKit
set_option linter.unusedVariables false
set_option maxHeartbeats 1000000 in
theorem walk (A : Option Addr) (c : Nat) (t : List (List Int)) (w : World) (hx : Tab IntV w A t) (hl : t.length ≤ maxLen) (hc : t.length ≤ c) (hcm : c ≤ maxLen) (hw : ∀ r ∈ t, ∀ n ∈ r, (Lit.int .i64 n).wf = true) :
    Calls Try.prog 4 #[.slice A t.length c] w (Yes w) := by
  clear hw
  by_cases h1 : szT t 1048576 < 0
  · go_enter Try.func4, Try.ntmps4
    go_wp2_with fail
    refine (szIntSS_any A c t 1048576 _ hx hl (by omega) (by omega)).mono ?_
    rintro e w' ⟨rfl, rfl⟩
    go_wp2_with fail
    go_ret
    exact ⟨rfl, Below.refl _ _⟩
  have f := szT_fit (by omega) h1
  have f1 := f.1
  have HT : Hid (∀ r ∈ t, r.length ≤ 1048576) := Lib.hid fun r hr => by have := f.2.1 r hr; omega
  clear f
  have ht : t.length ≤ 1048576 := by omega
  go_enter Try.func4, Try.ntmps4
  go_wp2_with fail
  refine (szIntSS_any A c t 1048576 _ hx hl (by omega) (by omega)).mono ?_
  rintro e w' ⟨rfl, rfl⟩
  go_wp2_with fail
  refine (toIntSS_any A c t _ hx ht HT.out).mono ?_
  rintro e w1 ⟨gA1, cA1, vA1, rfl, hA1, oA1, hb1⟩
  go_wp2_with fail
  refine (specTotal_any _ cA1 t _ oA1.tab hl).mono ?_
  rintro e w2 ⟨rfl, hb2⟩
  have h2 := hb1.trans (hb2.mono hb1.size)
  clear oA1
  go_wp2_with fail
  refine (toIntSS_any A c t _ (hx.below h2) ht HT.out).mono ?_
  rintro e w3 ⟨gA2, cA2, vA2, rfl, hA2, oA2, hb3⟩
  have h3 := h2.trans (hb3.mono h2.size)
  go_wp2_with fail
  refine (implTotal_any _ cA2 t _ oA2.tab hl).mono ?_
  rintro e w4 ⟨rfl, hb4⟩
  have h4 := h3.trans (hb4.mono h3.size)
  have HA2 := Lib.hid (oA2.tab.below hb4)
  clear oA2
  go_wp2_with fail
  refine (toIntSS_any A c t _ (hx.below h4) ht HT.out).mono ?_
  rintro e w5 ⟨gA3, cA3, vA3, rfl, hA3, oA3, hb5⟩
  have h5 := h4.trans (hb5.mono h4.size)
  go_wp2_with fail
  refine (eqIntSS_any _ _ cA2 cA3 t t _ (HA2.out.below hb5) oA3.tab hl).mono ?_
  rintro e w6 ⟨rfl, hq6⟩
  have e1 := eqT_same t
  have h6 := h5.trans (hq6.below.mono h5.size)
  go_wp2_with fail
  go_ret
  exact ⟨rfl, h6⟩
end Go.Proofs.Ytkneddahefhedaa.fnExactTableTotal
