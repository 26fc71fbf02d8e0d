/- The walk of the law FnTableTurn: for every code it returns true and leaves old memory alone. -/
import Derived.Test.YtkneddahefhedaaTurnS
import Derived.Test.YtkneddahefhedaaSame
import Derived.Test.YtkneddahefhedaaDTabs
import Derived.OpenShut
import Derived.Deep.RegionLaw
import Derived.Deep.RegionWith
import Derived.IntWalk
import Derived.ShutString
namespace Go.Proofs.Ytkneddahefhedaa.fnTableTurn
open Go.RowKit
set_option linter.unusedVariables false


set_option maxHeartbeats 1000000 in
theorem walk (A : Option Addr) (c : Nat) (bs : List Int) (w : World) (hx : Seq ByteV w A bs) (hl : bs.length ≤ maxLen) (hc : bs.length ≤ c) (hcm : c ≤ maxLen) (hw : ∀ n ∈ bs, (Lit.int .u8 n).wf = true) :
    Calls Try.prog 3 #[.slice A bs.length c] w (Yes w) := by
  have hby : ∀ b ∈ bs, 0 ≤ b ∧ b ≤ 255 := fun b hb => bounds_u8 (hw b hb)
  have HB := Lib.hid hby
  clear hw hby
  by_cases hbig : 1048576 < bs.length
  · unfold maxLen at hl
    go_enter Try.func3, Try.ntmps3
    go_wp2
    go_ret
    exact ⟨rfl, Below.refl _ _⟩
  have hb1 : decide (1048576 < (bs.length : Int)) = false := by simp; omega
  go_enter Try.func3, Try.ntmps3
  go_wp2_with fail
  refine (drawTableTurn_any A c bs _ hx hl hc hcm HB.out).mono ?_
  rintro e w1 ⟨A1, c1, t, rfl, hc1, hT, hsh, h1⟩
  clear hx hl hc hcm HB hb1 
  have hl := hsh.wf
  have ht4 := hsh.1
  have HT1 := Lib.hid hT
  clear hT

  rcases tab_cases t with hv | ⟨h, wd, G, rfl, gd⟩
  · have eR := turnT_no hv
    have hi := implTurn_any A1 c1 t w1 HT1.out hl
    have hs := fun w (hT : Tab IntV w A1 t) => specTurn_any A1 c1 t w hT hl
    rw [eR, hv] at hi
    simp only [eR, hv] at hs
    have HI := Lib.hid hi
    have HS := Lib.hid hs
    clear hi hs eR
    go_wp2_with fail
    refine HI.out.mono ?_
    rintro e w2 ⟨A2, c2, rfl, -, -, hb2⟩
    have h2 := h1.trans (hb2.mono h1.size)
    go_wp2_with fail
    refine (HS.out _ (HT1.out.below hb2)).mono ?_
    rintro e w3 ⟨A3, c3, rfl, -, -, hb3⟩
    have h3 := h2.trans (hb3.mono h2.size)
    have e1 := eqT_same ([] : List (List Int))
    go_wp2_with fail
    refine (sameRows_any A2 A3 c2 c3 [] [] _ Tab.nil_ Tab.nil_ (by simp)).mono ?_
    rintro e w4 ⟨rfl, hq4⟩
    have h4 := h3.trans (hq4.below.mono h3.size)
    go_wp2_with fail
    refine (sameRows_any A2 A3 c2 c3 [] [] _ Tab.nil_ Tab.nil_ (by simp)).mono ?_
    rintro e w5 ⟨rfl, hq5⟩
    have h5 := h4.trans (hq5.below.mono h4.size)
    go_wp2_with fail
    go_ret
    exact ⟨rfl, h5⟩
  · have h1' := gd.h1
    have h4' := gd.h4
    have w1' := gd.w1
    have w4' := gd.w4
    rw [mkT_len] at hl hc1 ht4 ⊢
    go_wp2_with fail
    refine (implTurn_yes A1 c1 h wd G _ HT1.out gd).mono ?_
    rintro e w2 ⟨A2, c2, rfl, hc2, hh2, hb2⟩
    rw [mkT_len] at hc2 ⊢
    have h2 := h1.trans (hb2.mono h1.size)
    have HT2 := Lib.hid (HT1.out.below hb2)
    have HO2 := Lib.hid hh2.tab
    clear hh2 HT1
    go_wp2_with fail
    refine (specTurn_yes A1 c1 h wd G _ HT2.out gd).mono ?_
    rintro e w3 ⟨A3, c3, rfl, hc3, hh3, hb3⟩
    rw [mkT_len] at hc3 ⊢
    have h3 := h2.trans (hb3.mono h2.size)
    have HT3 := Lib.hid (HT2.out.below hb3)
    have HO3 := Lib.hid (HO2.out.below hb3)
    have e1 := eqT_same (mkT wd h fun a b => G b a)
    have HSR : Hid (∀ w, Tab IntV w A2 (mkT wd h fun a b => G b a) → Tab IntV w A3 (mkT wd h fun a b => G b a) → Calls Try.prog 17 #[.slice A2 wd c2, .slice A3 wd c3] w fun e w' => e = .returned (.bool true) ∧ Qu w w') := Lib.hid fun w ha hb => by
      have := sameRows_any A2 A3 c2 c3 _ _ w ha hb (by rw [mkT_len]; unfold maxLen; omega)
      rw [mkT_len, e1] at this
      exact this
    go_wp2_with fail
    refine (HSR.out _ HO3.out hh3.tab).mono ?_
    rintro e w4 ⟨rfl, hq4⟩
    have h4 := h3.trans (hq4.below.mono h3.size)
    have HT4 := Lib.hid (HT3.out.below hq4.below)
    have HO4 := Lib.hid (HO3.out.below hq4.below)
    clear hh3 HT3 HO3 HT2 HO2 e1
    go_wp2_with fail
    refine (implTurn_yes A2 c2 wd h (fun a b => G b a) _ HO4.out gd.turn).mono ?_
    rintro e w5 ⟨A5, c5, rfl, hc5, hh5, hb5⟩
    rw [mkT_len] at hc5 ⊢
    have h5 := h4.trans (hb5.mono h4.size)
    have HT5 := Lib.hid (HT4.out.below hb5)
    have HO5 := Lib.hid (HO4.out.below hb5)
    have HX5 := Lib.hid hh5.tab
    clear hh5 HT4 HO4
    go_wp2_with fail
    go_loopw [10] (fun i wr => ∃ a : Nat, a ≤ h ∧ i = .int .i64 a ∧ Hid (Qu w5 wr)) (fun i _ => h - (intOf i).toNat)
    case atStart => exact ⟨0, Nat.zero_le _, rfl, Lib.hid (Qu.refl _)⟩
    case round =>
      obtain ⟨i, hi', rfl, HQ⟩ := hrel
      obtain ⟨wo, rfl⟩ : ∃ wo : World, wo = wr := ⟨_, rfl⟩
      by_cases hi : i < h
      · go_wp2_with fail
        go_loopw [11] (fun v wr => ∃ m : Nat, m ≤ wd ∧ v = .int .i64 m ∧ Hid (Qu w5 wr)) (fun v _ => wd - (intOf v).toNat)
        case atStart => exact ⟨0, Nat.zero_le _, rfl, HQ⟩
        case round =>
          clear HQ
          obtain ⟨j, hj', rfl, HQ⟩ := hrel
          obtain ⟨W, rfl⟩ : ∃ W : World, W = wr := ⟨_, rfl⟩
          have g1 : (i : Int) < (h : Int) := by omega
          by_cases hj : j < wd
          · obtain ⟨b, o, b', o', c', rfl, hbb, k1, hbb', k2, -⟩ := (HT5.out.below HQ.out.below).mk hi hj
            obtain ⟨d, p, d', p', c'', rfl, hdd, k3, hdd', k4, -⟩ := (HO5.out.below HQ.out.below).mk hj hi
            have g2 : (j : Int) < (wd : Int) := by omega
            have ne : (G i j != G i j) = false := by simp
            go_wp2_with fail
            go_quiet (fail)
            go_wp2_with fail
            go_roundw
            case rel => exact ⟨j + 1, by omega, by go_num, Lib.hid (HQ.out.drewN _)⟩
            case measure => simp [intOf]; omega
          · obtain rfl : j = wd := by omega
            obtain ⟨b, o, A', c', rfl, hbb, k1, -⟩ := (HT5.out.below HQ.out.below).mkrow hi
            go_wp2_with fail
            go_roundw
            case rel => exact ⟨i + 1, by omega, by go_num, HQ⟩
            case measure => simp [intOf]; omega
      · obtain rfl : i = h := by omega
        obtain ⟨b, o, A', c', rfl, hbb, k1, -⟩ := (HT5.out.below HQ.out.below).mkrow (i := 0) (by omega)
        simp only [Nat.add_zero] at k1
        have e1 := eqT_same (mkT i wd G)
        have hS : ∀ w, Tab IntV w A5 (mkT i wd G) → Tab IntV w (some ⟨b, o, none⟩) (mkT i wd G) → Calls Try.prog 17 #[.slice A5 i c5, .slice (some ⟨b, o, none⟩) i c1] w fun e w' => e = .returned (.bool true) ∧ Qu w w' := fun w ha hb => by
          have := sameRows_any A5 _ c5 c1 _ _ w ha hb (by rw [mkT_len]; unfold maxLen; omega)
          rw [mkT_len, e1] at this
          exact this
        have HSS := Lib.hid hS
        clear hS e1 HSR
        go_wp2_with fail
        refine (HSS.out _ (HX5.out.below HQ.out.below) (HT5.out.below HQ.out.below)).mono ?_
        rintro e w6 ⟨rfl, hq6⟩
        have k6 := (hq6.below.cell (p := ⟨b, o, none⟩) hbb).trans k1
        have h6 := h5.trans ((HQ.out.trans hq6).below.mono h5.size)
        have g0 : (0 : Int) < (i : Int) := by omega
        have g0' : 0 < i := by omega
        clear k1
        go_wp2_with fail
        go_ret
        exact ⟨rfl, h6⟩
end Go.Proofs.Ytkneddahefhedaa.fnTableTurn
