/- The walk of the law FnExactPartsValid: for every list it returns true and leaves old memory alone. -/
import Derived.Test.YtapmpggohcmljaaPartsOk
namespace Go.Proofs.Ytapmpggohcmljaa.fnExactPartsValid
open Go.RowKit
set_option linter.unusedVariables false

set_option maxHeartbeats 400000 in
theorem walk (A : Option Addr) (c : Nat) (xs : List Int) (w : World) (hx : Seq IntV w A xs) (hl : xs.length ≤ maxLen) (hc : xs.length ≤ c) (hw : ∀ n ∈ xs, (Lit.int .i64 n).wf = true) :
    Calls Try.prog 3 #[.slice A xs.length c] w (Yes w) := by
  unfold maxLen at hl
  clear hw
  by_cases hbig : 1048576 < xs.length
  · go_enter Try.func3, Try.ntmps3
    go_wp2
    go_ret
    exact ⟨rfl, Below.refl _ _⟩
  · go_enter Try.func3, Try.ntmps3
    go_wp2_with fail
    refine (toIntS_any A c xs _ hx (by omega)).mono ?_
    rintro e w1 ⟨A1, c1, rfl, ho1, hb1⟩
    go_wp2_with fail
    refine (specPartsValid_any A1 c1 xs _ (Seq.of_own ho1) (by unfold maxLen; omega)).mono ?_
    rintro e w' ⟨rfl, rfl⟩
    go_wp2_with fail
    refine (toIntS_any A c xs _ (hx.below hb1) (by omega)).mono ?_
    rintro e w2 ⟨A2, c2, rfl, ho2, hb2⟩
    go_wp2_with fail
    refine (implPartsValid_any A2 c2 xs _ (Seq.of_own ho2) (by unfold maxLen; omega)).mono ?_
    rintro e w' ⟨rfl, rfl⟩
    have hb12 := hb1.trans (hb2.mono hb1.size)
    go_wp2_with fail
    refine (toIntS_any A c xs _ (hx.below hb12) (by omega)).mono ?_
    rintro e w3 ⟨A3, c3, rfl, ho3, hb3⟩
    go_wp2_with fail
    refine (eqIntS_any A2 A3 c2 c3 xs xs _ ((Seq.of_own ho2).below hb3) (Seq.of_own ho3) (by unfold maxLen; omega)).mono ?_
    rintro e w' ⟨rfl, hq⟩
    have he := eqInts_same xs
    go_wp2_with fail
    go_ret
    exact ⟨rfl, (hb12.trans (hb3.mono hb12.size)).trans (hq.below.mono (hb12.trans (hb3.mono hb12.size)).size)⟩
end Go.Proofs.Ytapmpggohcmljaa.fnExactPartsValid
