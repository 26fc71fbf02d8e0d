/- l13Ok of the reference. -/
import Derived.Test.YtncnghmadeghlaaMaskC
import Derived.Test.YtncnghmadeghlaaL6In
namespace Go.Proofs.Ytncnghmadeghlaa
open Go.RowKit
set_option linter.unusedVariables false
set_option maxHeartbeats 400000 in
theorem l13Ok_no (A B : Option Addr) (c d : Nat) (t : List (List Int)) (m : List (List Bool)) (i j : Int) (w : World) (hx : Tab IntV w A t) (hy : Tab BoolV w B m) (hl : t.length ≤ maxLen) (hm : m.length ≤ maxLen) (hv : maskValid t m = false) :
    Calls Try.prog 78 #[.slice A t.length c, .slice B m.length d, .int .i64 i, .int .i64 j] w fun e w' => e = .returned (.bool false) ∧ Qu w w' := by
  have hc := specMaskValid_any A B c d t m w hx hy hl hm
  rw [hv] at hc
  have HC := Lib.hid hc
  clear hc
  go_enter Try.func78, Try.ntmps78
  go_wp2_with fail
  refine HC.out.mono ?_
  rintro e w1 ⟨rfl, hq⟩
  go_wp2_with fail
  go_ret
  exact ⟨rfl, hq⟩
set_option maxHeartbeats 400000 in
theorem l13Ok_yes (A B : Option Addr) (c d h wd : Nat) (G : Nat → Nat → Int) (M : Nat → Nat → Bool) (i j : Int) (w : World) (hx : Tab IntV w A (mkT h wd G)) (hy : Tab BoolV w B (mkT h wd M)) (gd : Good h wd G) :
    Calls Try.prog 78 #[.slice A h c, .slice B h d, .int .i64 i, .int .i64 j] w fun e w' => e = .returned (.bool (inB i 0 ((h : Int) - 1) && inB j 0 ((wd : Int) - 1))) ∧ Qu w w' := by
  have h1 := gd.h1
  have h4 := gd.h4
  have w1 := gd.w1
  have w4 := gd.w4
  have hc := specMaskValid_any A B c d _ _ w hx hy (by rw [mkT_len]; unfold maxLen; omega) (by rw [mkT_len]; unfold maxLen; omega)
  rw [mkT_len, mkT_len, maskValid_mk gd] at hc
  have HC := Lib.hid hc
  obtain ⟨b, o, A', c', rfl, hbb, k1, -⟩ := hx.mkrow (i := 0) (by omega)
  simp only [Nat.add_zero] at k1
  have g0 : (0 : Int) < (h : Int) := by omega
  have hl1 := l6In_any i 0 ((h : Int) - 1)
  have hl2 := l6In_any j 0 ((wd : Int) - 1)
  obtain ⟨x, hxe⟩ : ∃ x, inB i 0 ((h : Int) - 1) = x := ⟨_, rfl⟩
  obtain ⟨y, hye⟩ : ∃ y, inB j 0 ((wd : Int) - 1) = y := ⟨_, rfl⟩
  rw [hxe] at hl1 ⊢
  rw [hye] at hl2 ⊢
  have HL1 := Lib.hid hl1
  have HL2 := Lib.hid hl2
  clear hc hl1 hl2 hxe hye
  go_enter Try.func78, Try.ntmps78
  go_wp2_with fail
  refine HC.out.mono ?_
  rintro e w1 ⟨rfl, hq⟩
  have k2 := (hq.below.cell (p := ⟨b, o, none⟩) hbb).trans k1
  have HQ := Lib.hid hq
  clear hq k1
  go_wp2_with fail
  refine (HL1.out _).mono ?_
  rintro e w' ⟨rfl, rfl⟩
  cases x
  · go_wp2_with fail
    go_ret
    exact ⟨rfl, HQ.out⟩
  · go_wp2_with fail
    refine (HL2.out _).mono ?_
    rintro e w' ⟨rfl, rfl⟩
    go_wp2_with fail
    go_ret
    exact ⟨rfl, HQ.out⟩
end Go.Proofs.Ytncnghmadeghlaa
