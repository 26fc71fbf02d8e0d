/- The walk of the law FnHighPair: for every code it returns true and leaves old memory alone. -/
import Derived.Test.YthknlonelbfpaaaHighC
import Derived.Test.YthknlonelbfpaaaShiftOk
import Derived.Test.YthknlonelbfpaaaGrid
import Derived.OpenShut
import Derived.Deep.RegionLaw
import Derived.Deep.RegionWith
import Derived.IntWalk
import Derived.ShutString
import Derived.BigQuiet
namespace Go.Proofs.Ythknlonelbfpaaa.fnHighPair
open Go.RowKit
set_option linter.unusedVariables false

theorem high_bd {h wd a b : Nat} {G : Nat → Nat → Int} {M : Nat → Nat → Bool} {v : Int} (gd : Good h wd G) (ha : a < h) (hb : b < wd) (hv : IsHigh h wd G M a b v) : v ≤ 396 := by
  obtain ⟨X, hX, -, e⟩ := hv.got
  have := fit_own ha hb gd.h4 gd.w4 (fun i j => ⟨gd.lo i j, gd.hi i j⟩) hX
  omega
/-- how many of the first cells -/
def cntN (f : Nat → Bool) (n : Nat) : Int := sumN n fun j => if f j = true then 1 else 0
theorem cnt_range (f : Nat → Bool) (n : Nat) : 0 ≤ cntN f n ∧ cntN f n ≤ n := by
  refine ⟨sumN_nonneg fun i _ => by split <;> omega, ?_⟩
  have := sumN_max (n := n) (f := fun j => if f j = true then (1 : Int) else 0) (c := 1) (fun i _ => by split <;> omega)
  unfold cntN; omega
theorem cnt_step (f : Nat → Bool) (n : Nat) : cntN f (n + 1) = cntN f n + if f n = true then 1 else 0 := rfl
theorem cnt_alone {f : Nat → Bool} {n b : Nat} (hb : b < n) (hf : f b = true) (hc : cntN f n ≤ 1) : ∀ l, l < n → l ≠ b → f l = false := by
  intro l hl hn
  cases hfl : f l
  · rfl
  · exfalso
    have h2 : sumN n (fun j => (if j = b then 1 else 0) + if j = l then 1 else 0) ≤ cntN f n := sumN_le fun j hj => by
      by_cases e1 : j = b
      · subst e1; rw [if_pos rfl, if_neg (fun e => hn e.symm), hf]; simp
      · rw [if_neg e1]
        by_cases e2 : j = l
        · subst e2; rw [hfl]; simp
        · rw [if_neg e2]; split <;> omega
    rw [sumN_add, sumN_one hb, sumN_one hl] at h2
    omega
def othF (M : Nat → Nat → Bool) (a b : Nat) : Nat → Bool := fun j => M a j && decide (j ≠ b)
/-- the last place that is set -/
def lastN (f : Nat → Bool) : Nat → Nat
  | 0 => 0
  | n + 1 => if f n = true then n else lastN f n
theorem cnt_none {f : Nat → Bool} : ∀ {n : Nat}, cntN f n = 0 → ∀ j, j < n → f j = false
  | 0, _, j, hj => absurd hj (by omega)
  | n + 1, h, j, hj => by
    have h0 := (cnt_range f n).1
    rw [cnt_step] at h
    cases hf : f n
    · rw [hf] at h
      by_cases e : j = n
      · rw [e]; exact hf
      · exact cnt_none (n := n) (by simpa using h) j (by omega)
    · rw [hf] at h; simp at h; omega
theorem last_one {f : Nat → Bool} : ∀ {n : Nat}, cntN f n = 1 → lastN f n < n ∧ f (lastN f n) = true ∧ ∀ j, j < n → j ≠ lastN f n → f j = false
  | 0, h => by simp [cntN, sumN] at h
  | n + 1, h => by
    rw [cnt_step] at h
    cases hf : f n
    · rw [hf] at h
      obtain ⟨h1, h2, h3⟩ := last_one (f := f) (n := n) (by simpa using h)
      simp only [lastN, hf, Bool.false_eq_true, if_false]
      refine ⟨by omega, h2, fun j hj hn => ?_⟩
      by_cases e : j = n
      · rw [e]; exact hf
      · exact h3 j (by omega) hn
    · rw [hf] at h
      simp only [lastN, hf, if_true]
      exact ⟨by omega, trivial, fun j hj hn => cnt_none (f := f) (n := n) (by simp at h; omega) j (by omega)⟩

set_option maxRecDepth 100000 in
set_option maxHeartbeats 4000000 in
theorem walk (A : Option Addr) (c : Nat) (bs : List Int) (w : World) (hx : Seq ByteV w A bs) (hl : bs.length ≤ maxLen) (hc : bs.length ≤ c) (hcm : c ≤ maxLen) (hw : ∀ n ∈ bs, (Lit.int .u8 n).wf = true) :
    Calls Try.prog 7 #[.slice A bs.length c] w (Yes w) := by
  have hby : ∀ b ∈ bs, 0 ≤ b ∧ b ≤ 255 := fun b hb => bounds_u8 (hw b hb)
  have HB := Lib.hid hby
  clear hw hby
  by_cases hbig : 1048576 < bs.length
  · unfold maxLen at hl
    go_enter Try.func7, Try.ntmps7
    go_wp2
    go_ret
    exact ⟨rfl, Below.refl _ _⟩
  have hb1 : decide (1048576 < (bs.length : Int)) = false := by simp; omega
  go_enter Try.func7, Try.ntmps7
  go_wp2_with fail
  refine (drawBoundHigh_any A c bs _ hx hl hc hcm HB.out).mono ?_
  rintro e w1 ⟨A1, c1, t, A2, c2, m, i, j, rfl, hc1, hT, hM, hsh, hm5, hi, hj, h1⟩
  clear hx hl hc hcm HB hb1
  have HT1 := Lib.hid hT
  have HM1 := Lib.hid hM
  rcases bound_cases A1 A2 c1 c2 t m i j w1 hT hM (by have := hsh.1; unfold maxLen; omega) (by unfold maxLen; omega) with ⟨HI, HS⟩ | ⟨h, wd, G, M, a, b, rfl, gd, rfl, ha, hb, rfl, rfl⟩
  · clear hT hM HT1 HM1 hsh hm5 hi hj hc1
    go_wp2_with fail
    refine (HI.out _ (Below.refl _ _)).mono ?_
    rintro e w2 ⟨rfl, hb2⟩
    go_wp2_with fail
    refine (HS.out _ hb2).mono ?_
    rintro e w3 ⟨rfl, hb3⟩
    go_wp2_with fail
    go_ret
    exact ⟨rfl, h1.trans ((hb2.trans (hb3.mono hb2.size)).mono h1.size)⟩
  · have g1 := gd.h1
    have g4 := gd.h4
    have k1 := gd.w1
    have k4 := gd.w4
    have HGD := Lib.hid gd
    have HF : Hid (∀ i j, 0 ≤ G i j) := Lib.hid fun i j => gd.lo i j
    rw [mkT_len] at hc1
    rw [mkT_len, mkT_len]
    clear hT hM hsh hm5 hi hj gd
    go_wp2_with fail
    refine (implHigh_yes shift_ok A1 A2 c1 c2 h wd a b G M _ HT1.out HM1.out HGD.out ha hb).mono ?_
    rintro e w2 ⟨v, rfl, hv, hb2⟩
    have HV := Lib.hid hv
    clear hv
    go_wp2_with fail
    refine (specHigh_yes A1 A2 c1 c2 h wd a b G M _ (HT1.out.below hb2) (HM1.out.below hb2) HGD.out ha hb).mono ?_
    rintro e w3 ⟨v', rfl, hv', hb3⟩
    obtain rfl : v = v' := HV.out.uniq hv'
    have v0 : 0 ≤ v := HV.out.nn
    have v9 : v ≤ 396 := high_bd HGD.out ha hb HV.out
    have vG : G a b ≤ v := HV.out.ge HF.out
    have vd : decide (v < 0) = false := decide_eq_false (by omega)
    have b13 := hb2.trans (hb3.mono hb2.size)
    have h3 := h1.trans (b13.mono h1.size)
    have HT3 := Lib.hid (HT1.out.below b13)
    have HM3 := Lib.hid (HM1.out.below b13)
    have a1 : (a : Int) < (h : Int) := by omega
    have b1 : (b : Int) < (wd : Int) := by omega
    clear HT1 HM1 hv' b13 hb2 hb3 h1

    obtain ⟨tb, tp, rfl, tr, tq, tc, hg⟩ := HT3.out.grid (by omega) (by omega)
    obtain ⟨mb, mp, rfl, mr, mq, mc, hn⟩ := HM3.out.grid (by omega) (by omega)
    have HG := Lib.hid hg
    have HN := Lib.hid hn
    clear hg hn

    go_wp2_with fail
    go_loop [9, 10, 11] (fun s o i => ∃ l : Nat, l ≤ wd ∧ i = .int .i64 l ∧ s = .int .i64 (cntN (othF M a b) l) ∧ o = .int .i64 (lastN (othF M a b) l)) (fun _ _ i => wd - (intOf i).toNat)
    case atStart => exact ⟨0, Nat.zero_le _, rfl, rfl, rfl⟩
    case round =>
      obtain ⟨l, hl', rfl, rfl, rfl⟩ := hrel
      have hr := cnt_range (othF M a b) l
      have r1 := hr.1
      have r2 := hr.2
      obtain ⟨s, hs⟩ : ∃ s, cntN (othF M a b) l = s := ⟨_, rfl⟩
      obtain ⟨o, ho⟩ : ∃ o, lastN (othF M a b) l = o := ⟨_, rfl⟩
      rw [hs] at r1 r2
      have r0 := HG.out.row 0 (by omega)
      simp only [Nat.add_zero] at r0
      rw [hs, ho]
      by_cases hl : l < wd
      · have na := HN.out.row a ha
        have mal := HN.out.cell a l ha hl
        simp only [BoolV] at mal
        have i2 : (l : Int) < (wd : Int) := by omega
        have hm : (M a l = false ∧ cntN (othF M a b) (l + 1) = s ∧ lastN (othF M a b) (l + 1) = o) ∨ (M a l = true ∧ ((l : Int) != (b : Int)) = false ∧ cntN (othF M a b) (l + 1) = s ∧ lastN (othF M a b) (l + 1) = o) ∨ (M a l = true ∧ ((l : Int) != (b : Int)) = true ∧ cntN (othF M a b) (l + 1) = s + 1 ∧ lastN (othF M a b) (l + 1) = l) := by
          rw [cnt_step, hs, lastN, ho]
          cases e1 : M a l
          · left; simp [othF, e1]
          · right
            by_cases e2 : l = b
            · left
              refine ⟨rfl, by simp; omega, ?_⟩
              subst e2
              simp [othF]
            · right
              refine ⟨rfl, by simp; omega, ?_⟩
              simp [othF, e1, e2]
        clear hr hs ho
        rcases hm with ⟨e1, e2, e3⟩ | ⟨e1, f1, e2, e3⟩ | ⟨e1, f1, e2, e3⟩
        all_goals
          rw [e1] at mal
          have HE := Lib.hid e2
          have HO := Lib.hid e3
          clear e1 e2 e3
          go_wp2_with fail
          go_round
          case rel => exact ⟨l + 1, by omega, by go_num, by rw [HE.out], by rw [HO.out]⟩
          case measure => simp [intOf]; omega
      · obtain rfl : l = wd := by omega
        have ra := HG.out.row a ha
        have cab := HG.out.cell a b ha hb
        have na := HN.out.row a ha
        have mab := HN.out.cell a b ha hb
        simp only [IntV] at cab
        simp only [BoolV] at mab
        obtain ⟨z, hz⟩ : ∃ z, G a b = z := ⟨_, rfl⟩
        have z0 := HGD.out.lo a b
        have z1 := HGD.out.hi a b
        rw [hz] at cab vG z0 z1
        by_cases hs1 : s = 1
        · obtain ⟨o1, o2, o3⟩ := last_one (hs.trans hs1)
          rw [ho] at o1 o2 o3
          have hob : o ≠ b := fun e => by rw [e] at o2; simp [othF] at o2
          have hno : ∀ j, j < l → j ≠ b → j ≠ o → M a j = false := fun j hj h1 h2 => by
            have := o3 j hj h2
            simpa [othF, h1] using this
          have f1 : (s != 1) = false := by simp [hs1]
          cases hM : M a b
          · rw [hM] at mab
            clear hr hs ho hs1 hno hM o2 o3 hz
            go_wp2_with fail
            go_ret
            exact ⟨rfl, h3⟩
          · rw [hM] at mab
            have cao := HG.out.cell a o ha o1
            simp only [IntV] at cao
            obtain ⟨x, hx⟩ : ∃ x, G a o = x := ⟨_, rfl⟩
            have x0 := HGD.out.lo a o
            have x1 := HGD.out.hi a o
            rw [hx] at cao x0 x1
            have i2 : (o : Int) < (l : Int) := by omega
            have HLO : Hid (∀ u, IsLow h l G M a o u → v + u = z + x) := Lib.hid fun u hu => by rw [← hz, ← hx]; exact HV.out.pair ha hb o1 hob hno hu
            have wz : IntKind.i64.wrap (z + x) = z + x := IntWalk.i64_in _ (by omega)
            have hlt1 := HG.out.lt
            have hlt2 := HG.out.rlt a ha
            have ho1 := o1
            have ez : (z + x == z + x) = true := by simp
            clear hr hs ho hs1 hno hM o2 o3 hz hx hob
            go_wp2_with fail
            go_region_with
              (first | (go_at_call 14; refine (implLow_yes shift_ok _ _ c1 c2 h l a o G M _ (HT3.out.below (below_drewN (Below.refl _ _) 1)) (HM3.out.below (below_drewN (Below.refl _ _) 1)) HGD.out ha ho1).mono ?_; rintro e w9 ⟨u, rfl, hu, hb9⟩; have hvu := HLO.out u hu; have wv : IntKind.i64.wrap (v + u) = z + x := (by rw [hvu]; exact wz); clear hvu; have hb9' := (below_drewN (Below.refl w3.heap.size w3) 1).trans (hb9.mono (by simp)); have k19 := (hb9'.cell (p := ⟨tb, tp + a, none⟩) hlt1).trans ra; have k29 := (hb9'.cell (p := ⟨tr a, tq a + b, none⟩) hlt2).trans cab; have k39 := (hb9'.cell (p := ⟨tr a, tq a + o, none⟩) hlt2).trans cao))
            all_goals
              go_wp2_with fail
              go_ret
              exact ⟨rfl, h3.trans (hb9'.mono h3.size)⟩
        · have f1 : (s != 1) = true := by simp [hs1]
          clear hr hs ho hs1 hz
          go_wp2_with fail
          go_ret
          exact ⟨rfl, h3⟩
end Go.Proofs.Ythknlonelbfpaaa.fnHighPair
