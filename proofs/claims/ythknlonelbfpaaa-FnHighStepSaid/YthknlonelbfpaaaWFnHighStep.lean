/- The walk of the law FnHighStep: for every code it returns true and leaves old memory alone. -/
import Derived.Test.YthknlonelbfpaaaHighC
import Derived.Test.YthknlonelbfpaaaShiftOk
import Derived.Test.YthknlonelbfpaaaGrid
import Derived.OpenShut
import Derived.Deep.RegionLaw
import Derived.Deep.RegionWith
import Derived.IntWalk
import Derived.ShutString
import Derived.BigQuiet
namespace Go.Proofs.Ythknlonelbfpaaa.fnHighStep
open Go.RowKit
set_option linter.unusedVariables false

theorem high_bd {h wd a b : Nat} {G : Nat → Nat → Int} {M : Nat → Nat → Bool} {v : Int} (gd : Good h wd G) (ha : a < h) (hb : b < wd) (hv : IsHigh h wd G M a b v) : v ≤ 396 := by
  obtain ⟨X, hX, -, e⟩ := hv.got
  have := fit_own ha hb gd.h4 gd.w4 (fun i j => ⟨gd.lo i j, gd.hi i j⟩) hX
  omega

set_option maxRecDepth 100000 in
set_option maxHeartbeats 4000000 in
theorem walk (A : Option Addr) (c : Nat) (bs : List Int) (w : World) (hx : Seq ByteV w A bs) (hl : bs.length ≤ maxLen) (hc : bs.length ≤ c) (hcm : c ≤ maxLen) (hw : ∀ n ∈ bs, (Lit.int .u8 n).wf = true) :
    Calls Try.prog 3 #[.slice A bs.length c] w (Yes w) := by
  have hby : ∀ b ∈ bs, 0 ≤ b ∧ b ≤ 255 := fun b hb => bounds_u8 (hw b hb)
  have HB := Lib.hid hby
  clear hw hby
  by_cases hbig : 1048576 < bs.length
  · unfold maxLen at hl
    go_enter Try.func3, Try.ntmps3
    go_wp2
    go_ret
    exact ⟨rfl, Below.refl _ _⟩
  have hb1 : decide (1048576 < (bs.length : Int)) = false := by simp; omega
  go_enter Try.func3, Try.ntmps3
  go_wp2_with fail
  refine (drawBoundHigh_any A c bs _ hx hl hc hcm HB.out).mono ?_
  rintro e w1 ⟨A1, c1, t, A2, c2, m, i, j, rfl, hc1, hT, hM, hsh, hm5, hi, hj, h1⟩
  clear hx hl hc hcm HB hb1
  have HT1 := Lib.hid hT
  have HM1 := Lib.hid hM
  rcases bound_cases A1 A2 c1 c2 t m i j w1 hT hM (by have := hsh.1; unfold maxLen; omega) (by unfold maxLen; omega) with ⟨HI, HS⟩ | ⟨h, wd, G, M, a, b, rfl, gd, rfl, ha, hb, rfl, rfl⟩
  · clear hT hM HT1 HM1 hsh hm5 hi hj hc1
    go_wp2_with fail
    refine (HI.out _ (Below.refl _ _)).mono ?_
    rintro e w2 ⟨rfl, hb2⟩
    go_wp2_with fail
    refine (HS.out _ hb2).mono ?_
    rintro e w3 ⟨rfl, hb3⟩
    go_wp2_with fail
    go_ret
    exact ⟨rfl, h1.trans ((hb2.trans (hb3.mono hb2.size)).mono h1.size)⟩
  · have g1 := gd.h1
    have g4 := gd.h4
    have k1 := gd.w1
    have k4 := gd.w4
    have HGD := Lib.hid gd
    have HF : Hid (∀ i j, 0 ≤ G i j) := Lib.hid fun i j => gd.lo i j
    rw [mkT_len] at hc1
    rw [mkT_len, mkT_len]
    clear hT hM hsh hm5 hi hj gd
    go_wp2_with fail
    refine (implHigh_yes shift_ok A1 A2 c1 c2 h wd a b G M _ HT1.out HM1.out HGD.out ha hb).mono ?_
    rintro e w2 ⟨v, rfl, hv, hb2⟩
    have HV := Lib.hid hv
    clear hv
    go_wp2_with fail
    refine (specHigh_yes A1 A2 c1 c2 h wd a b G M _ (HT1.out.below hb2) (HM1.out.below hb2) HGD.out ha hb).mono ?_
    rintro e w3 ⟨v', rfl, hv', hb3⟩
    obtain rfl : v = v' := HV.out.uniq hv'
    have v0 : 0 ≤ v := HV.out.nn
    have v9 : v ≤ 396 := high_bd HGD.out ha hb HV.out
    have vG : G a b ≤ v := HV.out.ge HF.out
    have vd : decide (v < 0) = false := decide_eq_false (by omega)
    have b13 := hb2.trans (hb3.mono hb2.size)
    have h3 := h1.trans (b13.mono h1.size)
    have HT3 := Lib.hid (HT1.out.below b13)
    have HM3 := Lib.hid (HM1.out.below b13)
    have a1 : (a : Int) < (h : Int) := by omega
    have b1 : (b : Int) < (wd : Int) := by omega
    clear HT1 HM1 hv' b13 hb2 hb3 h1

    obtain ⟨tb, tp, rfl, tr, tq, tc, hg⟩ := HT3.out.grid (by omega) (by omega)
    obtain ⟨mb, mp, rfl, mr, mq, mc, hn⟩ := HM3.out.grid (by omega) (by omega)
    have HG := Lib.hid hg
    have HN := Lib.hid hn
    clear hg hn

    go_wp2_with fail
    go_loopw [9] (fun i wr => ∃ k : Nat, k ≤ h ∧ i = .int .i64 k ∧ Hid (Qu w3 wr)) (fun i _ => h - (intOf i).toNat)
    case atStart => exact ⟨0, Nat.zero_le _, rfl, Lib.hid (Qu.refl _)⟩
    case round =>
      obtain ⟨k, hk', rfl, HQ⟩ := hrel
      obtain ⟨wo, rfl⟩ : ∃ wo : World, wo = wr := ⟨_, rfl⟩
      by_cases hk : k < h
      · go_wp2_with fail
        go_loopw [10] (fun i wr => ∃ l : Nat, l ≤ wd ∧ i = .int .i64 l ∧ Hid (Qu w3 wr)) (fun i _ => wd - (intOf i).toNat)
        case atStart => exact ⟨0, Nat.zero_le _, rfl, HQ⟩
        case round =>
          clear HQ
          obtain ⟨l, hl', rfl, HQ⟩ := hrel
          obtain ⟨W, rfl⟩ : ∃ W : World, W = wr := ⟨_, rfl⟩
          have hG := HG.out.qu HQ.out
          have hN := HN.out.qu HQ.out
          have r0 := hG.row 0 (by omega)
          simp only [Nat.add_zero] at r0
          by_cases hl : l < wd
          · have ra := hG.row a ha
            have rk := hG.row k hk
            have cab := hG.cell a b ha hb
            have cal := hG.cell a l ha hl
            have ckb := hG.cell k b hk hb
            have na := hN.row a ha
            have nk := hN.row k hk
            have mab := hN.cell a b ha hb
            have mal := hN.cell a l ha hl
            have mkb := hN.cell k b hk hb
            have mkl := hN.cell k l hk hl
            simp only [IntV] at cab cal ckb
            simp only [BoolV] at mab mal mkb mkl
            have i1 : (k : Int) < (h : Int) := by omega
            have i2 : (l : Int) < (wd : Int) := by omega
            obtain ⟨z, hz⟩ : ∃ z, G a b = z := ⟨_, rfl⟩
            obtain ⟨x, hx⟩ : ∃ x, G a l = x := ⟨_, rfl⟩
            obtain ⟨y, hy⟩ : ∃ y, G k b = y := ⟨_, rfl⟩
            have z0 := HGD.out.lo a b
            have z1 := HGD.out.hi a b
            have x0 := HGD.out.lo a l
            have x1 := HGD.out.hi a l
            have y0 := HGD.out.lo k b
            have y1 := HGD.out.hi k b
            rw [hz] at z0 z1 cab
            rw [hx] at x0 x1 cal
            rw [hy] at y0 y1 ckb
            obtain ⟨u, hu⟩ : ∃ u, (if y < x then y else x) = u := ⟨_, rfl⟩
            have u0 : 0 ≤ u := by rw [← hu]; split <;> omega
            have u1 : u ≤ x := by rw [← hu]; split <;> omega
            have u2 : u ≤ y := by rw [← hu]; split <;> omega
            have wu : IntKind.i64.wrap (z + u) = z + u := IntWalk.i64_in _ (by omega)
            have hrect : k ≠ a → l ≠ b → M a b = true → M a l = true → M k b = true → M k l = true → decide (v < z + u) = false := fun e1 e2 e3 e4 e5 e6 => decide_eq_false (by
              have := HV.out.rect ha hb HF.out hk hl e1 e2 e3 e4 e5 e6 u u0 (by rw [hx]; exact u1) (by rw [hy]; exact u2)
              rw [hz] at this; omega)
            have HR := Lib.hid hrect
            have HU := Lib.hid hu
            have HW := Lib.hid wu
            have hm : (M a b = false) ∨ (M a b = true ∧ M a l = false) ∨ (M a b = true ∧ M a l = true ∧ M k b = false) ∨ (M a b = true ∧ M a l = true ∧ M k b = true ∧ M k l = false) ∨ (M a b = true ∧ M a l = true ∧ M k b = true ∧ M k l = true) := by
              cases M a b <;> cases M a l <;> cases M k b <;> cases M k l <;> simp
            have hc : (((k : Int) != (a : Int)) = false) ∨ (((k : Int) != (a : Int)) = true ∧ ((l : Int) != (b : Int)) = false) ∨ ((((k : Int) != (a : Int)) = true ∧ ((l : Int) != (b : Int)) = true) ∧ k ≠ a ∧ l ≠ b) := by
              by_cases e1 : k = a
              · left; simp; omega
              · by_cases e2 : l = b
                · right; left; exact ⟨by simp; omega, by simp; omega⟩
                · right; right; exact ⟨⟨by simp; omega, by simp; omega⟩, e1, e2⟩
            clear hz hx hy hu wu hrect hG hN u0 u1 u2 x0 x1 y0 y1
            rcases hm with e1 | ⟨e1, e2⟩ | ⟨e1, e2, e3⟩ | ⟨e1, e2, e3, e4⟩ | ⟨e1, e2, e3, e4⟩
            all_goals first | rw [e1] at mab | skip
            all_goals first | rw [e2] at mal | skip
            all_goals first | rw [e3] at mkb | skip
            all_goals first | rw [e4] at mkl | skip
            iterate 4
              · as_aux_lemma =>
                  first | clear e1 e2 e3 e4 | clear e1 e2 e3 | clear e1 e2 | clear e1
                  rcases hc with f1 | ⟨f1, f2⟩ | ⟨⟨f1, f2⟩, -, -⟩
                  all_goals
                    go_wp2_with fail
                    go_quiet (fail)
                    go_wp2_with fail
                    go_roundw
                    case rel => exact ⟨l + 1, by omega, by go_num, Lib.hid (HQ.out.drewN _)⟩
                    case measure => simp [intOf]; omega
            · rcases hc with f1 | ⟨f1, f2⟩ | ⟨⟨f1, f2⟩, n1, n2⟩
              · clear e1 e2 e3 e4
                go_wp2_with fail
                go_quiet (fail)
                go_wp2_with fail
                go_roundw
                case rel => exact ⟨l + 1, by omega, by go_num, Lib.hid (HQ.out.drewN _)⟩
                case measure => simp [intOf]; omega
              · clear e1 e2 e3 e4
                go_wp2_with fail
                go_quiet (fail)
                go_wp2_with fail
                go_roundw
                case rel => exact ⟨l + 1, by omega, by go_num, Lib.hid (HQ.out.drewN _)⟩
                case measure => simp [intOf]; omega
              · have hr := HR.out n1 n2 e1 e2 e3 e4
                have HR2 := Lib.hid hr
                clear e1 e2 e3 e4 hr n1 n2
                go_wp2_with fail
                have hr := HR2.out
                have hu := HU.out
                have wu := HW.out
                go_quiet (fail)
                clear hr hu wu
                go_wp2_with fail
                go_roundw
                case rel => exact ⟨l + 1, by omega, by go_num, Lib.hid (HQ.out.drewN _)⟩
                case measure => simp [intOf]; omega
          · obtain rfl : l = wd := by omega
            clear hG hN
            go_wp2_with fail
            go_roundw
            case rel => exact ⟨k + 1, by omega, by go_num, HQ⟩
            case measure => simp [intOf]; omega
      · obtain rfl : k = h := by omega
        have h5 := h3.trans (HQ.out.below.mono h3.size)
        go_wp2_with fail
        go_ret
        exact ⟨rfl, h5⟩
end Go.Proofs.Ythknlonelbfpaaa.fnHighStep
