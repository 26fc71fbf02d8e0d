/- The walk of the law FnExactMaskValid: for every table and mask it returns true and leaves old memory alone. -/
import Derived.Test.YtkneddahefhedaaMaskV
import Derived.Test.YtkneddahefhedaaToIntSS
import Derived.Test.YtkneddahefhedaaToBoolSS
import Derived.Test.YtkneddahefhedaaSzInt
import Derived.Test.YtkneddahefhedaaSzBool
namespace Go.Proofs.Ytkneddahefhedaa.fnExactMaskValid
open Go.RowKit
set_option linter.unusedVariables false

set_option maxHeartbeats 1000000 in
theorem walk (A : Option Addr) (c : Nat) (t : List (List Int)) (B : Option Addr) (d : Nat) (m : List (List Bool)) (w : World) (hx : Tab IntV w A t) (hl : t.length ≤ maxLen) (hc : t.length ≤ c) (hcm : c ≤ maxLen) (hw : ∀ r ∈ t, ∀ n ∈ r, (Lit.int .i64 n).wf = true)
    (hy : Tab BoolV w B m) (hm : m.length ≤ maxLen) (hd : m.length ≤ d) (hdm : d ≤ maxLen) :
    Calls Try.prog 10 #[.slice A t.length c, .slice B m.length d] w (Yes w) := by
  clear hw
  by_cases h1 : szT t 1048576 < 0
  · go_enter Try.func10, Try.ntmps10
    go_wp2_with fail
    refine (szIntSS_any A c t 1048576 _ hx hl (by omega) (by omega)).mono ?_
    rintro e w' ⟨rfl, rfl⟩
    go_wp2_with fail
    go_ret
    exact ⟨rfl, Below.refl _ _⟩
  have f := szT_fit (by omega) h1
  have f1 := f.1
  have F2 := Lib.hid f.2.1
  have f3 := f.2.2
  clear f
  by_cases h2 : szT m (szT t 1048576) < 0
  · go_enter Try.func10, Try.ntmps10
    go_wp2_with fail
    refine (szIntSS_any A c t 1048576 _ hx hl (by omega) (by omega)).mono ?_
    rintro e w' ⟨rfl, rfl⟩
    go_wp2_with fail
    refine (szBoolSS_any B d m _ _ hy hm (by omega) (by omega)).mono ?_
    rintro e w' ⟨rfl, rfl⟩
    go_wp2_with fail
    go_ret
    exact ⟨rfl, Below.refl _ _⟩
  have g := szT_fit (by omega) h2
  have g1 := g.1
  have G2 := Lib.hid g.2.1
  clear g
  have HT : Hid (∀ r ∈ t, r.length ≤ 1048576) := Lib.hid fun r hr => by have := F2.out r hr; omega
  have HM : Hid (∀ r ∈ m, r.length ≤ 1048576) := Lib.hid fun r hr => by have := G2.out r hr; omega
  have ht : t.length ≤ 1048576 := by omega
  have hmm : m.length ≤ 1048576 := by omega
  go_enter Try.func10, Try.ntmps10
  go_wp2_with fail
  refine (szIntSS_any A c t 1048576 _ hx hl (by omega) (by omega)).mono ?_
  rintro e w' ⟨rfl, rfl⟩
  go_wp2_with fail
  refine (szBoolSS_any B d m _ _ hy hm (by omega) (by omega)).mono ?_
  rintro e w' ⟨rfl, rfl⟩
  go_wp2_with fail
  refine (toIntSS_any A c t _ hx ht HT.out).mono ?_
  rintro e w1 ⟨gA1, cA1, vA1, rfl, hA1, oA1, hb1⟩
  go_wp2_with fail
  refine (toBoolSS_any B d m _ (hy.below hb1) hmm HM.out).mono ?_
  rintro e w2 ⟨gB1, cB1, vB1, rfl, hB1, oB1, hb2⟩
  have h12 := hb1.trans (hb2.mono hb1.size)
  go_wp2_with fail
  refine (specMaskValid_any _ _ cA1 cB1 t m _ (oA1.tab.below hb2) oB1.tab hl hm).mono ?_
  rintro e w3 ⟨rfl, hq3⟩
  have h13 := h12.trans (hq3.below.mono h12.size)
  clear oA1 oB1
  go_wp2_with fail
  refine (toIntSS_any A c t _ (hx.below h13) ht HT.out).mono ?_
  rintro e w4 ⟨gA2, cA2, vA2, rfl, hA2, oA2, hb4⟩
  have h14 := h13.trans (hb4.mono h13.size)
  go_wp2_with fail
  refine (toBoolSS_any B d m _ (hy.below h14) hmm HM.out).mono ?_
  rintro e w5 ⟨gB2, cB2, vB2, rfl, hB2, oB2, hb5⟩
  have h15 := h14.trans (hb5.mono h14.size)
  go_wp2_with fail
  refine (implMaskValid_any _ _ cA2 cB2 t m _ (oA2.tab.below hb5) oB2.tab hl hm).mono ?_
  rintro e w' ⟨rfl, rfl⟩
  have hA5 := Lib.hid (oA2.tab.below hb5)
  have hB5 := Lib.hid oB2.tab
  clear oA2 oB2
  go_wp2_with fail
  refine (toIntSS_any A c t _ (hx.below h15) ht HT.out).mono ?_
  rintro e w6 ⟨gA3, cA3, vA3, rfl, hA3, oA3, hb6⟩
  have h16 := h15.trans (hb6.mono h15.size)
  go_wp2_with fail
  refine (eqIntSS_any _ _ cA2 cA3 t t _ (hA5.out.below hb6) oA3.tab hl).mono ?_
  rintro e w7 ⟨rfl, hq7⟩
  have e1 := eqT_same t
  have h17 := h16.trans (hq7.below.mono h16.size)
  have hB7 := Lib.hid ((hB5.out.below hb6).below hq7.below)
  clear oA3 hA5 hB5
  go_wp2_with fail
  refine (toBoolSS_any B d m _ (hy.below h17) hmm HM.out).mono ?_
  rintro e w8 ⟨gB3, cB3, vB3, rfl, hB3, oB3, hb8⟩
  have h18 := h17.trans (hb8.mono h17.size)
  go_wp2_with fail
  refine (eqBoolSS_any _ _ cB2 cB3 m m _ (hB7.out.below hb8) oB3.tab hm).mono ?_
  rintro e w9 ⟨rfl, hq9⟩
  have e2 := eqT_same m
  go_wp2_with fail
  go_ret
  exact ⟨rfl, h18.trans (hq9.below.mono h18.size)⟩
end Go.Proofs.Ytkneddahefhedaa.fnExactMaskValid
