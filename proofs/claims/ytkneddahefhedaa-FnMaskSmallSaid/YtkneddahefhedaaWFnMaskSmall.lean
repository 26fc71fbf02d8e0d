/- The walk of the law FnMaskSmall: for every code it returns true and leaves old memory alone. -/
import Derived.Test.YtkneddahefhedaaSmallS
import Derived.Test.YtkneddahefhedaaSameMask
import Derived.Test.YtkneddahefhedaaDMask
import Derived.Test.YtkneddahefhedaaMaskV
import Derived.OpenShut
import Derived.Deep.RegionLaw
import Derived.Deep.RegionWith
import Derived.IntWalk
import Derived.ShutString
namespace Go.Proofs.Ytkneddahefhedaa.fnMaskSmall
open Go.RowKit
set_option linter.unusedVariables false

theorem many_le {h wd : Nat} {M N : Nat → Nat → Bool} (hMN : ∀ i j, M i j = true → N i j = true) : manyT h wd M ≤ manyT h wd N := by
  refine sumN_le fun i _ => sumN_le fun j _ => ?_
  have := hMN i j
  revert this
  cases M i j <;> cases N i j <;> simp [b2i]
theorem maskValid_mk {h wd : Nat} {G : Nat → Nat → Int} {M : Nat → Nat → Bool} (g : Good h wd G) : maskValid (mkT h wd G) (mkT h wd M) = true := by
  rw [maskValid, g.valid, mkT_len, mkT_len, mkT_wid _ g.h1, decide_eq_true rfl]
  simp only [Bool.true_and, lensOk, List.all_eq_true, decide_eq_true_eq]
  intro r hr
  obtain ⟨i, hi, rfl⟩ := mkT_mem.1 hr
  exact mkL_len _ _

set_option maxHeartbeats 1000000 in
theorem walk (A : Option Addr) (c : Nat) (bs : List Int) (w : World) (hx : Seq ByteV w A bs) (hl : bs.length ≤ maxLen) (hc : bs.length ≤ c) (hcm : c ≤ maxLen) (hw : ∀ n ∈ bs, (Lit.int .u8 n).wf = true) :
    Calls Try.prog 5 #[.slice A bs.length c] w (Yes w) := by
  have hby : ∀ b ∈ bs, 0 ≤ b ∧ b ≤ 255 := fun b hb => bounds_u8 (hw b hb)
  have HB := Lib.hid hby
  clear hw hby
  by_cases hbig : 1048576 < bs.length
  · unfold maxLen at hl
    go_enter Try.func5, Try.ntmps5
    go_wp2
    go_ret
    exact ⟨rfl, Below.refl _ _⟩
  have hb1 : decide (1048576 < (bs.length : Int)) = false := by simp; omega
  go_enter Try.func5, Try.ntmps5
  go_wp2_with fail
  refine (drawMaskSmall_any A c bs _ hx hl hc hcm HB.out).mono ?_
  rintro e w1 ⟨A1, c1, t, k, rfl, hc1, hT, hsh, hk7, h1⟩
  clear hx hl hc hcm HB hb1
  have hl := hsh.wf
  have ht4 := hsh.1
  have HT1 := Lib.hid hT
  have hkw : (Lit.int .i64 (k : Int)).wf = true := WalkArith.wf_i64 (by omega)
  clear hT

  rcases tab_cases t with hv | ⟨h, wd, G, rfl, gd⟩
  · have hi := implSmall_any A1 c1 t k w1 HT1.out hl hkw
    have hs := fun w (hT : Tab IntV w A1 t) => specSmall_any A1 c1 t k w hT hl hkw
    rw [smallT_no hv, hv] at hi
    simp only [smallT_no hv, hv] at hs
    have HI := Lib.hid hi
    have HS := Lib.hid hs
    clear hi hs hkw
    go_wp2_with fail
    refine HI.out.mono ?_
    rintro e w2 ⟨A2, c2, rfl, -, -, hb2⟩
    have h2 := h1.trans (hb2.mono h1.size)
    go_wp2_with fail
    refine (HS.out _ (HT1.out.below hb2)).mono ?_
    rintro e w3 ⟨A3, c3, rfl, -, -, hb3⟩
    have h3 := h2.trans (hb3.mono h2.size)
    go_wp2_with fail
    refine (sameMask_nil A2 A3 c2 c3 _).mono ?_
    rintro e w' ⟨rfl, rfl⟩
    go_wp2_with fail
    refine (sameMask_nil A2 A3 c2 c3 _).mono ?_
    rintro e w' ⟨rfl, rfl⟩
    go_wp2_with fail
    go_ret
    exact ⟨rfl, h3⟩

  · have h1' := gd.h1
    have h4' := gd.h4
    have w1' := gd.w1
    have w4' := gd.w4
    rw [mkT_len] at hl hc1 ht4 ⊢
    clear hkw
    go_wp2_with fail
    refine (implSmall_yes A1 c1 h wd G k _ HT1.out gd).mono ?_
    rintro e w2 ⟨A2, c2, rfl, hc2, hh2, hb2⟩
    rw [mkT_len] at hc2 ⊢
    have h2 := h1.trans (hb2.mono h1.size)
    have HT2 := Lib.hid (HT1.out.below hb2)
    have HO2 := Lib.hid hh2.tab
    clear hh2 HT1
    go_wp2_with fail
    refine (specSmall_yes A1 c1 h wd G k _ HT2.out gd).mono ?_
    rintro e w3 ⟨A3, c3, rfl, hc3, hT3, hb3⟩
    have h3 := h2.trans (hb3.mono h2.size)
    have HT3 := Lib.hid (HT2.out.below hb3)
    have HO3 := Lib.hid (HO2.out.below hb3)
    go_wp2_with fail
    refine (sameMask_same A2 A3 c2 c3 h wd _ _ HO3.out hT3 h4' w4').mono ?_
    rintro e w4 ⟨rfl, hq4⟩
    have h4 := h3.trans (hq4.below.mono h3.size)
    have HT4 := Lib.hid (HT3.out.below hq4.below)
    have HO4 := Lib.hid (HO3.out.below hq4.below)
    clear hT3 HT3 HO3 HT2 HO2

    have hkk : IntKind.i64.wrap ((k : Int) + 1) = (k : Int) + 1 := IntWalk.i64_in _ (by omega)
    go_wp2_with fail
    refine (implSmall_yes A1 c1 h wd G ((k : Int) + 1) _ HT4.out gd).mono ?_
    rintro e w5 ⟨A5, c5, rfl, hc5, hh5, hb5⟩
    rw [mkT_len] at hc5 ⊢
    have h5 := h4.trans (hb5.mono h4.size)
    have HT5 := Lib.hid (HT4.out.below hb5)
    have HO5 := Lib.hid (HO4.out.below hb5)
    have HN5 := Lib.hid hh5.tab
    clear hh5 HT4 HO4 hc5 hkk
    go_wp2_with fail
    go_loopw [11] (fun i wr => ∃ a : Nat, a ≤ h ∧ i = .int .i64 a ∧ Hid (Qu w5 wr)) (fun i _ => h - (intOf i).toNat)
    case atStart => exact ⟨0, Nat.zero_le _, rfl, Lib.hid (Qu.refl _)⟩
    case round =>
      obtain ⟨i, hi', rfl, HQ⟩ := hrel
      obtain ⟨wo, rfl⟩ : ∃ wo : World, wo = wr := ⟨_, rfl⟩
      by_cases hi : i < h
      · go_wp2_with fail
        go_loopw [12] (fun v wr => ∃ m : Nat, m ≤ wd ∧ v = .int .i64 m ∧ Hid (Qu w5 wr)) (fun v _ => wd - (intOf v).toNat)
        case atStart => exact ⟨0, Nat.zero_le _, rfl, HQ⟩
        case round =>
          clear HQ
          obtain ⟨j, hj', rfl, HQ⟩ := hrel
          obtain ⟨W, rfl⟩ : ∃ W : World, W = wr := ⟨_, rfl⟩
          have g1 : (i : Int) < (h : Int) := by omega
          by_cases hj : j < wd
          · obtain ⟨b, o, b', o', c', rfl, hbb, k1, hbb', k2, -⟩ := (HT5.out.below HQ.out.below).mk hi hj
            obtain ⟨d, p, d', p', c'', rfl, hdd, k3, hdd', k4, -⟩ := (HO5.out.below HQ.out.below).mk hi hj
            have g2 : (j : Int) < (wd : Int) := by omega
            obtain ⟨x, hxv⟩ : ∃ x, G i j = x := ⟨_, rfl⟩
            rw [hxv] at k2 k4
            have hbv : ((0 < x ∧ x < k) ∧ sm k x = true) ∨ ((0 < x ∧ ¬ x < k) ∧ sm k x = false) ∨ ((decide (0 < x) = false) ∧ sm k x = false) := by
              by_cases p1 : 0 < x
              · by_cases p2 : x < k
                · exact .inl ⟨⟨p1, p2⟩, sm_yes p1 p2⟩
                · exact .inr (.inl ⟨⟨p1, p2⟩, sm_no (fun e => p2 e.2)⟩)
              · exact .inr (.inr ⟨decide_eq_false p1, sm_no (fun e => p1 e.1)⟩)
            clear hxv
            rcases hbv with ⟨⟨p1, p2⟩, hs⟩ | ⟨⟨p1, p2⟩, hs⟩ | ⟨p1, hs⟩
            all_goals
              rw [hs] at k4
              clear hs
              go_wp2_with fail
              go_quiet (fail)
              go_wp2_with fail
              go_roundw
              case rel => exact ⟨j + 1, by omega, by go_num, Lib.hid (HQ.out.drewN _)⟩
              case measure => simp [intOf]; omega
          · obtain rfl : j = wd := by omega
            obtain ⟨b, o, A', c', rfl, hbb, k1, -⟩ := (HT5.out.below HQ.out.below).mkrow hi
            go_wp2_with fail
            go_roundw
            case rel => exact ⟨i + 1, by omega, by go_num, HQ⟩
            case measure => simp [intOf]; omega
      · obtain rfl : i = h := by omega
        have hm1 := implMany_any A5 c5 i wd _ wo (HN5.out.below HQ.out.below) h4' w4'
        have hm2 := implMany_any A2 c2 i wd _ wo (HO5.out.below HQ.out.below) h4' w4'
        have hge : manyT i wd (fun a b => sm k (G a b)) ≤ manyT i wd (fun a b => sm ((k : Int) + 1) (G a b)) := many_le fun a b hab => by
          simp only [sm, decide_eq_true_eq] at hab ⊢
          omega
        obtain ⟨x, hx⟩ : ∃ x, manyT i wd (fun a b => sm k (G a b)) = x := ⟨_, rfl⟩
        obtain ⟨y, hy⟩ : ∃ y, manyT i wd (fun a b => sm ((k : Int) + 1) (G a b)) = y := ⟨_, rfl⟩
        rw [hy] at hm1
        rw [hx] at hm2
        rw [hx, hy] at hge
        have hv := implMaskValid_any A1 A2 c1 c2 _ _ wo (HT5.out.below HQ.out.below) (HO5.out.below HQ.out.below) (by rw [mkT_len]; unfold maxLen; omega) (by rw [mkT_len]; unfold maxLen; omega)
        rw [mkT_len, mkT_len, maskValid_mk gd] at hv
        have HM1 := Lib.hid hm1
        have HM2 := Lib.hid hm2
        have HV := Lib.hid hv
        have h6 := h5.trans (HQ.out.below.mono h5.size)
        clear hm1 hm2 hv hx hy
        go_wp2_with fail
        refine HM1.out.mono ?_
        rintro e w' ⟨rfl, rfl⟩
        go_wp2_with fail
        refine HM2.out.mono ?_
        rintro e w' ⟨rfl, rfl⟩
        go_wp2_with fail
        refine HV.out.mono ?_
        rintro e w' ⟨rfl, rfl⟩
        go_wp2_with fail
        go_ret
        exact ⟨rfl, h6⟩
end Go.Proofs.Ytkneddahefhedaa.fnMaskSmall
