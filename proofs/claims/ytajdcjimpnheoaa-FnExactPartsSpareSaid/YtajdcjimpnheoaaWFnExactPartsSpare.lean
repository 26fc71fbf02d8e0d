/- The walk of the law FnExactPartsSpare: for every list it returns true and leaves old memory alone. -/
import Derived.Test.YtajdcjimpnheoaaLeadI
import Derived.Test.YtajdcjimpnheoaaLeadS
import Derived.Test.YtajdcjimpnheoaaToInts
namespace Go.Proofs.Ytajdcjimpnheoaa.fnExactPartsSpare
open Go.RowKit
set_option linter.unusedVariables false

set_option maxHeartbeats 400000 in
theorem walk (A : Option Addr) (c : Nat) (xs : List Int) (p : Int) (w : World) (hx : Seq IntV w A xs) (hl : xs.length ≤ maxLen) (hc : xs.length ≤ c) (hw : ∀ n ∈ xs, (Lit.int .i64 n).wf = true) (hp : (Lit.int .i64 p).wf = true) :
    Calls Try.prog 7 #[.slice A xs.length c, .int .i64 p] w (Yes w) := by
  unfold maxLen at hl
  by_cases hbig : 1048576 < xs.length
  · clear hw
    go_enter Try.func7, Try.ntmps7
    go_wp2
    go_ret
    exact ⟨rfl, Below.refl _ _⟩
  · have HW := Lib.hid hw
    clear hw
    go_enter Try.func7, Try.ntmps7
    go_wp2_with fail
    refine (toIntS_any A c xs _ hx (by omega)).mono ?_
    rintro e w1 ⟨A1, c1, rfl, ho1, hb1⟩
    go_wp2_with fail
    refine (specPartsSpare_g A1 c1 xs p _ (Lst.of_own ho1) (by omega) HW.out hp).mono ?_
    rintro e w2 ⟨rfl, hb2⟩
    have h12 := hb1.trans (hb2.mono hb1.size)
    go_wp2_with fail
    refine (toIntS_any A c xs _ (hx.below h12) (by omega)).mono ?_
    rintro e w3 ⟨A2, c2, rfl, ho2, hb3⟩
    have h13 := h12.trans (hb3.mono h12.size)
    go_wp2_with fail
    refine (implPartsSpare_g A2 c2 xs p _ (Lst.of_own ho2) (by omega) HW.out hp).mono ?_
    rintro e w4 ⟨rfl, hb4⟩
    have h14 := h13.trans (hb4.mono h13.size)
    go_wp2_with fail
    refine (toIntS_any A c xs _ (hx.below h14) (by omega)).mono ?_
    rintro e w5 ⟨A3, c3, rfl, ho3, hb5⟩
    have h15 := h14.trans (hb5.mono h14.size)
    go_wp2_with fail
    refine (eqIntS_any A2 A3 c2 c3 xs xs _ (((Seq.of_own ho2).below hb4).below hb5) (Seq.of_own ho3) (by unfold maxLen; omega)).mono ?_
    rintro e w6 ⟨rfl, hq⟩
    have he := eqInts_same xs
    go_wp2_with fail
    go_ret
    exact ⟨rfl, h15.trans (hq.below.mono h15.size)⟩
end Go.Proofs.Ytajdcjimpnheoaa.fnExactPartsSpare
