/- The walk of the law FnHighZero: for every code it returns true and leaves old memory alone. -/
import Derived.Test.YthknlonelbfpaaaHighC
import Derived.Test.YthknlonelbfpaaaShiftOk
import Derived.Test.YthknlonelbfpaaaGrid
import Derived.Test.YthknlonelbfpaaaSumOfL
import Derived.OpenShut
import Derived.Deep.RegionLaw
import Derived.Deep.RegionWith
import Derived.IntWalk
import Derived.ShutString
import Derived.BigQuiet
namespace Go.Proofs.Ythknlonelbfpaaa.fnHighZero
open Go.RowKit
set_option linter.unusedVariables false

theorem high_bd {h wd a b : Nat} {G : Nat → Nat → Int} {M : Nat → Nat → Bool} {v : Int} (gd : Good h wd G) (ha : a < h) (hb : b < wd) (hv : IsHigh h wd G M a b v) : v ≤ 396 := by
  obtain ⟨X, hX, -, e⟩ := hv.got
  have := fit_own ha hb gd.h4 gd.w4 (fun i j => ⟨gd.lo i j, gd.hi i j⟩) hX
  omega
def restN (M : Nat → Nat → Bool) (G : Nat → Nat → Int) (a b l : Nat) : Int := sumN l fun j => if M a j = true ∧ j ≠ b then G a j else 0
theorem rest_range {h wd : Nat} {G : Nat → Nat → Int} (gd : Good h wd G) (M : Nat → Nat → Bool) (a b l : Nat) : 0 ≤ restN M G a b l ∧ restN M G a b l ≤ l * 99 := by
  refine ⟨sumN_nonneg fun i _ => ?_, sumN_max fun i _ => ?_⟩
  · have := gd.lo a i; split <;> omega
  · have := gd.hi a i; split <;> omega

set_option maxRecDepth 100000 in
set_option maxHeartbeats 2000000 in
theorem walk (A : Option Addr) (c : Nat) (bs : List Int) (w : World) (hx : Seq ByteV w A bs) (hl : bs.length ≤ maxLen) (hc : bs.length ≤ c) (hcm : c ≤ maxLen) (hw : ∀ n ∈ bs, (Lit.int .u8 n).wf = true) :
    Calls Try.prog 4 #[.slice A bs.length c] w (Yes w) := by
  have hby : ∀ b ∈ bs, 0 ≤ b ∧ b ≤ 255 := fun b hb => bounds_u8 (hw b hb)
  have HB := Lib.hid hby
  clear hw hby
  by_cases hbig : 1048576 < bs.length
  · unfold maxLen at hl
    go_enter Try.func4, Try.ntmps4
    go_wp2
    go_ret
    exact ⟨rfl, Below.refl _ _⟩
  have hb1 : decide (1048576 < (bs.length : Int)) = false := by simp; omega
  go_enter Try.func4, Try.ntmps4
  go_wp2_with fail
  refine (drawBoundHigh_any A c bs _ hx hl hc hcm HB.out).mono ?_
  rintro e w1 ⟨A1, c1, t, A2, c2, m, i, j, rfl, hc1, hT, hM, hsh, hm5, hi, hj, h1⟩
  clear hx hl hc hcm HB hb1
  have HT1 := Lib.hid hT
  have HM1 := Lib.hid hM
  rcases bound_cases A1 A2 c1 c2 t m i j w1 hT hM (by have := hsh.1; unfold maxLen; omega) (by unfold maxLen; omega) with ⟨HI, HS⟩ | ⟨h, wd, G, M, a, b, rfl, gd, rfl, ha, hb, rfl, rfl⟩
  · clear hT hM HT1 HM1 hsh hm5 hi hj hc1
    go_wp2_with fail
    refine (HI.out _ (Below.refl _ _)).mono ?_
    rintro e w2 ⟨rfl, hb2⟩
    go_wp2_with fail
    refine (HS.out _ hb2).mono ?_
    rintro e w3 ⟨rfl, hb3⟩
    go_wp2_with fail
    go_ret
    exact ⟨rfl, h1.trans ((hb2.trans (hb3.mono hb2.size)).mono h1.size)⟩
  · have g1 := gd.h1
    have g4 := gd.h4
    have k1 := gd.w1
    have k4 := gd.w4
    have HGD := Lib.hid gd
    have HF : Hid (∀ i j, 0 ≤ G i j) := Lib.hid fun i j => gd.lo i j
    rw [mkT_len] at hc1
    rw [mkT_len, mkT_len]
    clear hT hM hsh hm5 hi hj gd
    go_wp2_with fail
    refine (implHigh_yes shift_ok A1 A2 c1 c2 h wd a b G M _ HT1.out HM1.out HGD.out ha hb).mono ?_
    rintro e w2 ⟨v, rfl, hv, hb2⟩
    have HV := Lib.hid hv
    clear hv
    go_wp2_with fail
    refine (specHigh_yes A1 A2 c1 c2 h wd a b G M _ (HT1.out.below hb2) (HM1.out.below hb2) HGD.out ha hb).mono ?_
    rintro e w3 ⟨v', rfl, hv', hb3⟩
    obtain rfl : v = v' := HV.out.uniq hv'
    have v0 : 0 ≤ v := HV.out.nn
    have v9 : v ≤ 396 := high_bd HGD.out ha hb HV.out
    have vG : G a b ≤ v := HV.out.ge HF.out
    have vd : decide (v < 0) = false := decide_eq_false (by omega)
    have b13 := hb2.trans (hb3.mono hb2.size)
    have h3 := h1.trans (b13.mono h1.size)
    have HT3 := Lib.hid (HT1.out.below b13)
    have HM3 := Lib.hid (HM1.out.below b13)
    have a1 : (a : Int) < (h : Int) := by omega
    have b1 : (b : Int) < (wd : Int) := by omega
    clear HT1 HM1 hv' b13 hb2 hb3 h1

    obtain ⟨tb, tp, rfl, tr, tq, tc, hg⟩ := HT3.out.grid (by omega) (by omega)
    obtain ⟨mb, mp, rfl, mr, mq, mc, hn⟩ := HM3.out.grid (by omega) (by omega)
    have HG := Lib.hid hg
    have HN := Lib.hid hn
    clear hg hn

    go_wp2_with fail
    go_loop [9, 10] (fun s i => ∃ l : Nat, l ≤ wd ∧ i = .int .i64 l ∧ s = .int .i64 (restN M G a b l)) (fun _ i => wd - (intOf i).toNat)
    case atStart => exact ⟨0, Nat.zero_le _, rfl, rfl⟩
    case round =>
      obtain ⟨l, hl', rfl, rfl⟩ := hrel
      have hG := HG.out
      have hN := HN.out
      have hr := rest_range HGD.out M a b l
      have r1 := hr.1
      have r2 := hr.2
      obtain ⟨s, hs⟩ : ∃ s, restN M G a b l = s := ⟨_, rfl⟩
      rw [hs] at r1 r2
      have r0 := hG.row 0 (by omega)
      simp only [Nat.add_zero] at r0
      have ra := hG.row a ha
      rw [hs]
      by_cases hl : l < wd
      · have cal := hG.cell a l ha hl
        have na := hN.row a ha
        have mal := hN.cell a l ha hl
        simp only [IntV] at cal
        simp only [BoolV] at mal
        have i2 : (l : Int) < (wd : Int) := by omega
        obtain ⟨x, hx⟩ : ∃ x, G a l = x := ⟨_, rfl⟩
        have x0 := HGD.out.lo a l
        have x1 := HGD.out.hi a l
        rw [hx] at x0 x1 cal
        have hm : (M a l = false ∧ restN M G a b (l + 1) = s) ∨ (M a l = true ∧ ((l : Int) != (b : Int)) = false ∧ restN M G a b (l + 1) = s) ∨ (M a l = true ∧ ((l : Int) != (b : Int)) = true ∧ restN M G a b (l + 1) = s + x) := by
          have e : restN M G a b (l + 1) = s + if M a l = true ∧ l ≠ b then x else 0 := by rw [← hs, ← hx]; rfl
          rw [e]
          by_cases e1 : M a l = true
          · by_cases e2 : l = b
            · right; left; exact ⟨e1, by simp; omega, by rw [if_neg (fun q => q.2 e2)]; omega⟩
            · right; right; exact ⟨e1, by simp; omega, by rw [if_pos ⟨e1, e2⟩]⟩
          · left; exact ⟨by simpa using e1, by rw [if_neg (fun q => e1 q.1)]; omega⟩
        clear hr hs hx hG hN
        rcases hm with ⟨e1, e2⟩ | ⟨e1, f1, e2⟩ | ⟨e1, f1, e2⟩
        all_goals
          rw [e1] at mal
          have HE := Lib.hid e2
          clear e1 e2
          go_wp2_with fail
          go_round
          case rel => exact ⟨l + 1, by omega, by go_num, by rw [HE.out]⟩
          case measure => simp [intOf]; omega
      · obtain rfl : l = wd := by omega
        have cab := hG.cell a b ha hb
        simp only [IntV] at cab
        obtain ⟨z, hz⟩ : ∃ z, G a b = z := ⟨_, rfl⟩
        rw [hz] at cab
        obtain ⟨S, hS⟩ : ∃ S, (mkL l (G a)).sum = S := ⟨_, rfl⟩
        have hsum := sumOf_any _ _ (mkL l (G a)) w3 (hG.lst a ha) (by rw [mkL_len]; omega) (fun x hx => by
          obtain ⟨j, -, rfl⟩ := mkL_mem.1 hx
          have := HGD.out.lo a j; have := HGD.out.hi a j; omega)
        rw [mkL_len, hS] at hsum
        have hS' : sumN l (G a) = S := by rw [← sum_mkL]; exact hS
        have p1 : (0 < S) ∨ (decide (0 < S) = false ∧ (v == 0) = true) := by
          by_cases e : 0 < S
          · exact .inl e
          · exact .inr ⟨decide_eq_false e, beq_iff_eq.2 (HV.out.zero ha hb (by omega))⟩
        have p2 : (0 < s) ∨ (decide (0 < s) = false ∧ (v == z) = true) := by
          by_cases e : 0 < s
          · exact .inl e
          · exact .inr ⟨decide_eq_false e, beq_iff_eq.2 (by rw [← hz]; exact HV.out.rest ha hb HF.out (by have := hs; unfold restN at this; omega))⟩
        have HSUM := Lib.hid hsum
        clear hr hs hz hG hN hS hS' hsum
        rcases p1 with p1 | ⟨p1, q1⟩
        all_goals
          rcases p2 with p2 | ⟨p2, q2⟩
          all_goals
            go_wp2_with fail
            refine HSUM.out.mono ?_
            rintro e w' ⟨rfl, rfl⟩
            go_wp2_with fail
            go_ret
            exact ⟨rfl, h3⟩
end Go.Proofs.Ythknlonelbfpaaa.fnHighZero
