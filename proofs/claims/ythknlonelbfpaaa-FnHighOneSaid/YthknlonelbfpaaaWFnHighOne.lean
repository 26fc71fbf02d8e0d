/- The walk of the law FnHighOne: for every code it returns true and leaves old memory alone. -/
import Derived.Test.YthknlonelbfpaaaHighC
import Derived.Test.YthknlonelbfpaaaShiftOk
import Derived.Test.YthknlonelbfpaaaGrid
import Derived.Test.YthknlonelbfpaaaQuietC
import Derived.OpenShut
import Derived.Deep.RegionLaw
import Derived.Deep.RegionWith
import Derived.IntWalk
import Derived.ShutString
import Derived.BigQuiet
namespace Go.Proofs.Ythknlonelbfpaaa.fnHighOne
open Go.RowKit
set_option linter.unusedVariables false

open Go.BigFrame
theorem high_bd {h wd a b : Nat} {G : Nat → Nat → Int} {M : Nat → Nat → Bool} {v : Int} (gd : Good h wd G) (ha : a < h) (hb : b < wd) (hv : IsHigh h wd G M a b v) : v ≤ 396 := by
  obtain ⟨X, hX, -, e⟩ := hv.got
  have := fit_own ha hb gd.h4 gd.w4 (fun i j => ⟨gd.lo i j, gd.hi i j⟩) hX
  omega
/-- how many of the first cells -/
def cntN (f : Nat → Bool) (n : Nat) : Int := sumN n fun j => if f j = true then 1 else 0
theorem cnt_range (f : Nat → Bool) (n : Nat) : 0 ≤ cntN f n ∧ cntN f n ≤ n := by
  refine ⟨sumN_nonneg fun i _ => by split <;> omega, ?_⟩
  have := sumN_max (n := n) (f := fun j => if f j = true then (1 : Int) else 0) (c := 1) (fun i _ => by split <;> omega)
  unfold cntN; omega
theorem cnt_step (f : Nat → Bool) (n : Nat) : cntN f (n + 1) = cntN f n + if f n = true then 1 else 0 := rfl
theorem cnt_alone {f : Nat → Bool} {n b : Nat} (hb : b < n) (hf : f b = true) (hc : cntN f n ≤ 1) : ∀ l, l < n → l ≠ b → f l = false := by
  intro l hl hn
  cases hfl : f l
  · rfl
  · exfalso
    have h2 : sumN n (fun j => (if j = b then 1 else 0) + if j = l then 1 else 0) ≤ cntN f n := sumN_le fun j hj => by
      by_cases e1 : j = b
      · subst e1; rw [if_pos rfl, if_neg (fun e => hn e.symm), hf]; simp
      · rw [if_neg e1]
        by_cases e2 : j = l
        · subst e2; rw [hfl]; simp
        · rw [if_neg e2]; split <;> omega
    rw [sumN_add, sumN_one hb, sumN_one hl] at h2
    omega

set_option maxRecDepth 100000 in
set_option maxHeartbeats 4000000 in
theorem walk (A : Option Addr) (c : Nat) (bs : List Int) (w : World) (hx : Seq ByteV w A bs) (hl : bs.length ≤ maxLen) (hc : bs.length ≤ c) (hcm : c ≤ maxLen) (hw : ∀ n ∈ bs, (Lit.int .u8 n).wf = true) :
    Calls Try.prog 5 #[.slice A bs.length c] w (Yes w) := by
  have hby : ∀ b ∈ bs, 0 ≤ b ∧ b ≤ 255 := fun b hb => bounds_u8 (hw b hb)
  have HB := Lib.hid hby
  clear hw hby
  by_cases hbig : 1048576 < bs.length
  · unfold maxLen at hl
    go_enter Try.func5, Try.ntmps5
    go_wp2
    go_ret
    exact ⟨rfl, Below.refl _ _⟩
  have hb1 : decide (1048576 < (bs.length : Int)) = false := by simp; omega
  go_enter Try.func5, Try.ntmps5
  go_wp2_with fail
  refine (drawBoundHigh_any A c bs _ hx hl hc hcm HB.out).mono ?_
  rintro e w1 ⟨A1, c1, t, A2, c2, m, i, j, rfl, hc1, hT, hM, hsh, hm5, hi, hj, h1⟩
  clear hx hl hc hcm HB hb1
  have HT1 := Lib.hid hT
  have HM1 := Lib.hid hM
  rcases bound_cases A1 A2 c1 c2 t m i j w1 hT hM (by have := hsh.1; unfold maxLen; omega) (by unfold maxLen; omega) with ⟨HI, HS⟩ | ⟨h, wd, G, M, a, b, rfl, gd, rfl, ha, hb, rfl, rfl⟩
  · clear hT hM HT1 HM1 hsh hm5 hi hj hc1
    go_wp2_with fail
    refine (HI.out _ (Below.refl _ _)).mono ?_
    rintro e w2 ⟨rfl, hb2⟩
    go_wp2_with fail
    refine (HS.out _ hb2).mono ?_
    rintro e w3 ⟨rfl, hb3⟩
    go_wp2_with fail
    go_ret
    exact ⟨rfl, h1.trans ((hb2.trans (hb3.mono hb2.size)).mono h1.size)⟩
  · have g1 := gd.h1
    have g4 := gd.h4
    have k1 := gd.w1
    have k4 := gd.w4
    have HGD := Lib.hid gd
    have HF : Hid (∀ i j, 0 ≤ G i j) := Lib.hid fun i j => gd.lo i j
    rw [mkT_len] at hc1
    rw [mkT_len, mkT_len]
    clear hT hM hsh hm5 hi hj gd
    go_wp2_with fail
    refine (implHigh_yes shift_ok A1 A2 c1 c2 h wd a b G M _ HT1.out HM1.out HGD.out ha hb).mono ?_
    rintro e w2 ⟨v, rfl, hv, hb2⟩
    have HV := Lib.hid hv
    clear hv
    go_wp2_with fail
    refine (specHigh_yes A1 A2 c1 c2 h wd a b G M _ (HT1.out.below hb2) (HM1.out.below hb2) HGD.out ha hb).mono ?_
    rintro e w3 ⟨v', rfl, hv', hb3⟩
    obtain rfl : v = v' := HV.out.uniq hv'
    have v0 : 0 ≤ v := HV.out.nn
    have v9 : v ≤ 396 := high_bd HGD.out ha hb HV.out
    have vG : G a b ≤ v := HV.out.ge HF.out
    have vd : decide (v < 0) = false := decide_eq_false (by omega)
    have b13 := hb2.trans (hb3.mono hb2.size)
    have h3 := h1.trans (b13.mono h1.size)
    have HT3 := Lib.hid (HT1.out.below b13)
    have HM3 := Lib.hid (HM1.out.below b13)
    have a1 : (a : Int) < (h : Int) := by omega
    have b1 : (b : Int) < (wd : Int) := by omega
    clear HT1 HM1 hv' b13 hb2 hb3 h1

    obtain ⟨tb, tp, rfl, tr, tq, tc, hg⟩ := HT3.out.grid (by omega) (by omega)
    obtain ⟨mb, mp, rfl, mr, mq, mc, hn⟩ := HM3.out.grid (by omega) (by omega)
    have HG := Lib.hid hg
    have HN := Lib.hid hn
    clear hg hn

    go_wp2_with fail
    go_loop [9, 11] (fun s i => ∃ l : Nat, l ≤ wd ∧ i = .int .i64 l ∧ s = .int .i64 (cntN (M a) l)) (fun _ i => wd - (intOf i).toNat)
    case atStart => exact ⟨0, Nat.zero_le _, rfl, rfl⟩
    case round =>
      obtain ⟨l, hl', rfl, rfl⟩ := hrel
      have hr := cnt_range (M a) l
      have r1 := hr.1
      have r2 := hr.2
      obtain ⟨s, hs⟩ : ∃ s, cntN (M a) l = s := ⟨_, rfl⟩
      rw [hs] at r1 r2
      have r0 := HG.out.row 0 (by omega)
      simp only [Nat.add_zero] at r0
      rw [hs]
      by_cases hl : l < wd
      · have na := HN.out.row a ha
        have mal := HN.out.cell a l ha hl
        simp only [BoolV] at mal
        have i2 : (l : Int) < (wd : Int) := by omega
        have hm : (M a l = false ∧ cntN (M a) (l + 1) = s) ∨ (M a l = true ∧ cntN (M a) (l + 1) = s + 1) := by
          rw [cnt_step, hs]
          cases M a l
          · left; simp
          · right; simp
        clear hr hs
        rcases hm with ⟨e1, e2⟩ | ⟨e1, e2⟩
        all_goals
          rw [e1] at mal
          have HE := Lib.hid e2
          clear e1 e2
          go_wp2_with fail
          go_round
          case rel => exact ⟨l + 1, by omega, by go_num, by rw [HE.out]⟩
          case measure => simp [intOf]; omega
      · obtain rfl : l = wd := by omega
        have HR := Lib.hid hs
        clear hr hs
        go_wp2_with fail
        go_loop [10, 12] (fun s i => ∃ k : Nat, k ≤ h ∧ i = .int .i64 k ∧ s = .int .i64 (cntN (fun k => M k b) k)) (fun _ i => h - (intOf i).toNat)
        case atStart => exact ⟨0, Nat.zero_le _, rfl, rfl⟩
        case round =>
          obtain ⟨k, hk', rfl, rfl⟩ := hrel
          have hr := cnt_range (fun k => M k b) k
          have t1 := hr.1
          have t2 := hr.2
          obtain ⟨t, ht⟩ : ∃ t, cntN (fun k => M k b) k = t := ⟨_, rfl⟩
          rw [ht] at t1 t2
          rw [ht]
          by_cases hk : k < h
          · have nk := HN.out.row k hk
            have mkb := HN.out.cell k b hk hb
            simp only [BoolV] at mkb
            have i2 : (k : Int) < (h : Int) := by omega
            have hm : (M k b = false ∧ cntN (fun k => M k b) (k + 1) = t) ∨ (M k b = true ∧ cntN (fun k => M k b) (k + 1) = t + 1) := by
              rw [cnt_step, ht]
              cases M k b
              · left; simp
              · right; simp
            clear hr ht
            rcases hm with ⟨e1, e2⟩ | ⟨e1, e2⟩
            all_goals
              rw [e1] at mkb
              have HE := Lib.hid e2
              clear e1 e2
              go_wp2_with fail
              go_round
              case rel => exact ⟨k + 1, by omega, by go_num, by rw [HE.out]⟩
              case measure => simp [intOf]; omega
          · obtain rfl : k = h := by omega
            have HC := Lib.hid ht
            have ra := HG.out.row a ha
            have cab := HG.out.cell a b ha hb
            simp only [IntV] at cab
            have hlt1 := HG.out.lt
            have hlt2 := HG.out.rlt a ha
            clear hr ht
            by_cases hbig : 1 < s ∧ 1 < t
            · have p1 := hbig.1
              have p2 := hbig.2
              clear hbig
              go_wp2_with fail
              go_quiet (fail)
              go_wp2_with fail
              go_ret
              exact ⟨rfl, below_drewN h3 _⟩
            · have htold : ∀ X, FitG k l G M a b X → X a b = G a b := by
                cases hM : M a b
                · exact told_shown ha hb hM
                · by_cases e : 1 < s
                  · exact told_col ha hb (cnt_alone (f := fun k => M k b) ha hM (by rw [HC.out]; omega))
                  · exact told_row ha hb (cnt_alone hb hM (by rw [HR.out]; omega))
              have hvz : v = G a b := HV.out.told HF.out htold
              obtain ⟨z, hz⟩ : ∃ z, G a b = z := ⟨_, rfl⟩
              rw [hz] at cab hvz
              subst hvz
              have HLO : Hid (∀ u, IsLow k l G M a b u → u = v) := Lib.hid fun u hu => by rw [← hz]; exact hu.told htold
              have p12 : (decide (1 < s) = false) ∨ (1 < s ∧ decide (1 < t) = false) := by
                by_cases e : 1 < s
                · exact .inr ⟨e, decide_eq_false (fun e2 => hbig ⟨e, e2⟩)⟩
                · exact .inl (decide_eq_false e)
              obtain ⟨I, fI, hne, hI⟩ := class_of w3.heap.size w3
              have HCD := Lib.hid hI
              have HA : Hid (∀ i, Calls Try.prog 14 #[.slice (some ⟨tb, tp, none⟩) k c1, .slice (some ⟨mb, mp, none⟩) k c2, .int .i64 a, .int .i64 b] (fI i) fun e W' => e = .returned (.int .i64 v) ∧ ∃ j, W' = fI j) := Lib.hid fun i => class_call hI (Nat.le_refl _) i fun hW =>
                (implLow_yes shift_ok _ _ c1 c2 k l a b G M _ (HT3.out.below hW) (HM3.out.below hW) HGD.out ha hb).mono fun e w' ⟨u, e1, e2, e3⟩ => ⟨by rw [e1, HLO.out u e2], e3⟩
              have hcl : ∀ (p : Addr) u, p.block < w3.heap.size → w3.cell? p = some u → ∀ i, (fI i).cell? p = some u := fun p u hp hc i => (((HCD.out (fI i)).1 ⟨i, rfl⟩).cell hp).trans hc
              have kra := hcl ⟨tb, tp + a, none⟩ _ hlt1 ra
              have kcab := hcl ⟨tr a, tq a + b, none⟩ _ hlt2 cab
              have vv : (v == v) = true := by simp
              have Q4 : Hid (∃ i, { w3 with drawn := w3.drawn + 1 } = fI i) := Lib.hid ((hI _).2 (Below.refl _ _).drew)
              have hmx : Try.prog.follows .mixedOrders = true := by kernel_rfl
              clear hbig htold hz vd vG hI hcl ra cab
              rcases p12 with p1 | ⟨p1, p2⟩
              all_goals
                go_wp2_with fail
                refine wp_region_quiet (C := fun W => ∃ i, W = fI i) hmx (by kernel_rfl) Q4.out ?_
                dsimp only
                repeat (first | go_big_quiet_skip | (go_big_quiet_want; go_big_quiet_op; first | go_big_quiet_on | go_big_quiet_call (with_reducible exact HA.out _)))
                refine wpQuiet_nil ?_
                intro w9 hw9
                have hb9 := (HCD.out _).1 hw9
                clear hw9
                go_wp2_with fail
                go_ret
                exact ⟨rfl, h3.trans (hb9.mono h3.size)⟩
end Go.Proofs.Ythknlonelbfpaaa.fnHighOne
