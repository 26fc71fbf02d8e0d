/- The walk of the law FnHighOrder: for every code it returns true and leaves old memory alone. -/
import Derived.Test.YthknlonelbfpaaaHighC
import Derived.Test.YthknlonelbfpaaaShiftOk
import Derived.Test.YthknlonelbfpaaaGrid
import Derived.Test.YthknlonelbfpaaaRowsV
import Derived.Test.YthknlonelbfpaaaInfo
import Derived.OpenShut
import Derived.Deep.RegionLaw
import Derived.Deep.RegionWith
import Derived.IntWalk
import Derived.ShutString
import Derived.BigQuiet
namespace Go.Proofs.Ythknlonelbfpaaa.fnHighOrder
open Go.RowKit
set_option linter.unusedVariables false

theorem high_bd {h wd a b : Nat} {G : Nat → Nat → Int} {M : Nat → Nat → Bool} {v : Int} (gd : Good h wd G) (ha : a < h) (hb : b < wd) (hv : IsHigh h wd G M a b v) : v ≤ 396 := by
  obtain ⟨X, hX, -, e⟩ := hv.got
  have := fit_own ha hb gd.h4 gd.w4 (fun i j => ⟨gd.lo i j, gd.hi i j⟩) hX
  omega
theorem rot_good {h wd : Nat} {G : Nat → Nat → Int} (gd : Good h wd G) : Good h wd (fun i => G (rotI h i)) := ⟨gd.h1, gd.h4, gd.w1, gd.w4, fun i j => gd.lo _ j, fun i j => gd.hi _ j⟩
theorem rot_rows {α : Type} {h p wd : Nat} (F : Nat → Nat → α) (hp : p + 1 = h) : [mkL wd (F p)] ++ (mkT h wd F).take p = mkT h wd (fun i => F (rotI h i)) := by
  subst hp
  apply List.ext_getElem?
  intro i
  cases i with
  | zero =>
    rw [mkT_get _ (by omega)]
    have e : rotI (p + 1) 0 = p := by simp [rotI]
    simp [e]
  | succ i =>
    have e : rotI (p + 1) (i + 1) = i := by simp [rotI]
    by_cases hi : i < p
    · rw [mkT_get _ (by omega), e]
      have h1 : ([mkL wd (F p)] ++ (mkT (p + 1) wd F).take p)[i + 1]? = (mkT (p + 1) wd F)[i]? := by simp [hi]
      rw [h1, mkT_get _ (by omega)]
    · rw [List.getElem?_eq_none (by simp; omega), List.getElem?_eq_none (by rw [mkT_len]; omega)]
theorem rot_tab {α : Type} {f : α → Value} {h p wd c base : Nat} {E : TypeId} {w w' : World} {A' : Option Addr} {F : Nat → Nat → α} {us zs : List RowW} {u : RowW} (hp : p + 1 = h) (hru : RowsAre f w us (mkT h wd F)) (hb : Below w.heap.size w w') (hu : u.n = wd) (hul : Lst f w u.a u.c (mkL wd (F p)))
    (hz : zs = [u] ++ us.take p) (ho : w'.ownsRow base E 1 (.slice A' zs.length c) zs.length (zs.map RowV)) : zs.length = h ∧ Tab f w' A' (mkT h wd (fun i => F (rotI h i))) := by
  have hl := hru.1
  rw [mkT_len] at hl
  refine ⟨by rw [hz]; simp; omega, ?_⟩
  have h1 : RowsAre f w' zs (mkT h wd (fun i => F (rotI h i))) := by
    rw [← rot_rows F hp, hz]
    exact ((RowsAre.one (by rw [hu, mkL_len]) hul).append (hru.take p)).below hb
  exact Tab.of_rows h1 (Seq.of_own ho)

set_option maxRecDepth 100000 in
set_option maxHeartbeats 4000000 in
theorem walk (A : Option Addr) (c : Nat) (bs : List Int) (w : World) (hx : Seq ByteV w A bs) (hl : bs.length ≤ maxLen) (hc : bs.length ≤ c) (hcm : c ≤ maxLen) (hw : ∀ n ∈ bs, (Lit.int .u8 n).wf = true) :
    Calls Try.prog 6 #[.slice A bs.length c] w (Yes w) := by
  have hby : ∀ b ∈ bs, 0 ≤ b ∧ b ≤ 255 := fun b hb => bounds_u8 (hw b hb)
  have HB := Lib.hid hby
  clear hw hby
  by_cases hbig : 1048576 < bs.length
  · unfold maxLen at hl
    go_enter Try.func6, Try.ntmps6
    go_wp2
    go_ret
    exact ⟨rfl, Below.refl _ _⟩
  have hb1 : decide (1048576 < (bs.length : Int)) = false := by simp; omega
  go_enter Try.func6, Try.ntmps6
  go_wp2_with fail
  refine (drawBoundHigh_any A c bs _ hx hl hc hcm HB.out).mono ?_
  rintro e w1 ⟨A1, c1, t, A2, c2, m, i, j, rfl, hc1, hT, hM, hsh, hm5, hi, hj, h1⟩
  clear hx hl hc hcm HB hb1
  have HT1 := Lib.hid hT
  have HM1 := Lib.hid hM
  rcases bound_cases A1 A2 c1 c2 t m i j w1 hT hM (by have := hsh.1; unfold maxLen; omega) (by unfold maxLen; omega) with ⟨HI, HS⟩ | ⟨h, wd, G, M, a, b, rfl, gd, rfl, ha, hb, rfl, rfl⟩
  · clear hT hM HT1 HM1 hsh hm5 hi hj hc1
    go_wp2_with fail
    refine (HI.out _ (Below.refl _ _)).mono ?_
    rintro e w2 ⟨rfl, hb2⟩
    go_wp2_with fail
    refine (HS.out _ hb2).mono ?_
    rintro e w3 ⟨rfl, hb3⟩
    go_wp2_with fail
    go_ret
    exact ⟨rfl, h1.trans ((hb2.trans (hb3.mono hb2.size)).mono h1.size)⟩
  · have g1 := gd.h1
    have g4 := gd.h4
    have k1 := gd.w1
    have k4 := gd.w4
    have HGD := Lib.hid gd
    have HF : Hid (∀ i j, 0 ≤ G i j) := Lib.hid fun i j => gd.lo i j
    obtain ⟨hc1, hMc⟩ := hc1
    rw [mkT_len] at hc1 hMc
    rw [mkT_len, mkT_len]
    clear hT hM hsh hm5 hi hj gd
    go_wp2_with fail
    refine (implHigh_yes shift_ok A1 A2 c1 c2 h wd a b G M _ HT1.out HM1.out HGD.out ha hb).mono ?_
    rintro e w2 ⟨v, rfl, hv, hb2⟩
    have HV := Lib.hid hv
    clear hv
    go_wp2_with fail
    refine (specHigh_yes A1 A2 c1 c2 h wd a b G M _ (HT1.out.below hb2) (HM1.out.below hb2) HGD.out ha hb).mono ?_
    rintro e w3 ⟨v', rfl, hv', hb3⟩
    obtain rfl : v = v' := HV.out.uniq hv'
    have v0 : 0 ≤ v := HV.out.nn
    have v9 : v ≤ 396 := high_bd HGD.out ha hb HV.out
    have vG : G a b ≤ v := HV.out.ge HF.out
    have vd : decide (v < 0) = false := decide_eq_false (by omega)
    have b13 := hb2.trans (hb3.mono hb2.size)
    have h3 := h1.trans (b13.mono h1.size)
    have HT3 := Lib.hid (HT1.out.below b13)
    have HM3 := Lib.hid (HM1.out.below b13)
    have a1 : (a : Int) < (h : Int) := by omega
    have b1 : (b : Int) < (wd : Int) := by omega
    clear HT1 HM1 hv' b13 hb2 hb3 h1

    obtain ⟨tb, tp, rfl, tr, tq, tc, hg⟩ := HT3.out.grid (by omega) (by omega)
    obtain ⟨mb, mp, rfl, mr, mq, mc, hn⟩ := HM3.out.grid (by omega) (by omega)
    have HG := Lib.hid hg
    have HN := Lib.hid hn
    clear hg hn

    obtain ⟨p, hp⟩ : ∃ p, p + 1 = h := ⟨h - 1, by omega⟩
    obtain ⟨us, hru, hsu⟩ := HT3.out.rows
    obtain ⟨vs, hrv, hsv⟩ := HM3.out.rows
    have hul : us.length = h := by rw [hru.1, mkT_len]
    have hvl : vs.length = h := by rw [hrv.1, mkT_len]
    have HC := Lib.hid hMc
    have HLU := Lib.hid (hsu.lst (c := c1) (by omega) (by omega) hc1.2)
    have HLV := Lib.hid (hsv.lst (c := c2) (by omega) (by omega) hMc.2)
    have HRU := Lib.hid hru
    have HRV := Lib.hid hrv
    have wp : IntKind.i64.wrap ((h : Int) - 1) = (p : Int) := by rw [IntWalk.i64_in _ (by omega)]; omega
    have rp := HG.out.row p (by omega)
    have np := HN.out.row p (by omega)
    have tlt := HG.out.lt
    have mlt := HN.out.lt
    have p0 : (0 : Int) ≤ (p : Int) := by omega
    have p1 : (p : Int) < (h : Int) := by omega
    have p2 : (p : Int) ≤ (c1 : Int) := by omega
    have p3 : (p : Int) ≤ (c2 : Int) := by omega
    have ph : p ≤ h := by omega
    have p4 : p ≤ c1 := by omega
    have p5 : p ≤ c2 := by omega
    have n1 : ¬ tb = w3.heap.size := by omega
    have n2 : ¬ w3.heap.size = tb := by omega
    have HP := Lib.hid hp
    have HUL := Lib.hid hul
    have HVL := Lib.hid hvl
    clear hsu hsv hru hrv hMc
    have hul' : h ≤ us.length := by omega
    have hvl' : h ≤ vs.length := by omega
    clear hul hvl hp

    go_wp2_with fail
    go_region_law (refine stepN (f := RowV) rfl (.tmp 49) (.tmp 53) _ rfl _ w3.heap.size 28 (.slice none 0 0) 24 Try.underlying23 nfoIS rfl (some ⟨w3.heap.size, 0, none⟩) 1 1 [⟨some ⟨tr p, tq p, none⟩, wd, tc p⟩] rfl rfl (by exact (Blk.new w3 28 _).drew.own (Nat.le_refl _) rfl (by unfold maxLen; omega)) (some ⟨tb, tp, none⟩) p c1 (us.take p) (by rw [List.length_take]; omega) rfl (by exact (HLU.out.below (((Below.refl _ _).alloc (Nat.le_refl _) _).drew)).take (by omega)) rowV_one (by omega) (by omega) (by omega) (by simp) ?_; intro A4 c4 z4 w4 HZ4 ho4 hb4)

    have hb34 : Below w3.heap.size w3 w4 := (((Below.refl _ _).alloc (Nat.le_refl _) _).drew).trans (hb4.mono (by simp))
    obtain ⟨hz4, hT4⟩ := rot_tab HP.out HRU.out hb34 rfl (HG.out.lst p (by omega)) HZ4.out ho4
    rw [hz4]
    have HX4 := Lib.hid hT4
    have np := (HN.out.below hb34).row p (by omega)
    have mlt := (HN.out.below hb34).lt
    have HLV4 := Lib.hid (HLV.out.below hb34)
    have HB4 := Lib.hid hb34
    have n3 : ¬ mb = w4.heap.size := by omega
    have n4 : ¬ w4.heap.size = mb := by omega
    clear hz4 hT4 ho4 hb4 HZ4 rp tlt n1 n2 HLU HLV hb34

    go_wp2_with fail
    go_region_law (refine stepN (f := RowV) rfl (.tmp 60) (.tmp 64) _ rfl _ w4.heap.size 29 (.slice none 0 0) 24 Try.underlying24 nfoBS rfl (some ⟨w4.heap.size, 0, none⟩) 1 1 [⟨some ⟨mr p, mq p, none⟩, wd, mc p⟩] rfl rfl (by exact (Blk.new w4 29 _).drew.own (Nat.le_refl _) rfl (by unfold maxLen; omega)) (some ⟨mb, mp, none⟩) p c2 (vs.take p) (by rw [List.length_take]; omega) rfl (by exact (HLV4.out.below (((Below.refl _ _).alloc (Nat.le_refl _) _).drew)).take (by omega)) rowV_one (by omega) (by omega) (by omega) (by simp) ?_; intro A5 c5 z5 w5 HZ5 ho5 hb5)

    have hb45 : Below w4.heap.size w4 w5 := (((Below.refl _ _).alloc (Nat.le_refl _) _).drew).trans (hb5.mono (by simp))
    obtain ⟨hz5, hT5⟩ := rot_tab HP.out (HRV.out.below HB4.out) hb45 rfl ((HN.out.lst p (by omega)).below HB4.out) HZ5.out ho5
    rw [hz5]
    have HX5 := Lib.hid (HX4.out.below hb45)
    have HY5 := Lib.hid hT5
    have hb35 := HB4.out.trans (hb45.mono HB4.out.size)
    have HT5 := Lib.hid (HT3.out.below hb35)
    have HM5 := Lib.hid (HM3.out.below hb35)
    have h5 := h3.trans (hb35.mono h3.size)
    have HGR := Lib.hid (rot_good HGD.out)
    obtain ⟨r, hr⟩ : ∃ r, rotB h a = r := ⟨_, rfl⟩
    have hrl : r < h := by rw [← hr]; exact rotB_lt ha
    have er : ((a : Int) + 1) % (h : Int) = (r : Int) := by
      rw [← hr, rotB]
      by_cases e : a = h - 1
      · rw [if_pos e, show (a : Int) + 1 = (h : Int) by omega, Int.emod_self]; rfl
      · rw [if_neg e, Int.emod_eq_of_lt (by omega) (by omega)]; rfl
    have hv5 := HV.out.rot ha
    rw [hr] at hv5
    have HV5 := Lib.hid hv5
    have HR := Lib.hid hr
    have ER := Lib.hid er
    have vv : (v == v) = true := by simp
    clear hz5 hT5 ho5 hb5 HZ5 np mlt n3 n4 HLV4 hb45 hb35 hr er hv5 wp p0 p1 p2 p3 ph p4 p5
    go_wp2_with fail
    rw [ER.out]
    refine (implHigh_yes shift_ok _ _ c4 c5 h wd r b _ _ _ HX5.out HY5.out HGR.out hrl hb).mono ?_
    rintro e w6 ⟨v', rfl, hv', hb6⟩
    obtain rfl : v = v' := HV5.out.uniq hv'
    have h6 := h5.trans (hb6.mono h5.size)
    clear hv'
    go_wp2_with fail
    rw [ER.out]
    refine (implLow_yes shift_ok _ _ c4 c5 h wd r b _ _ _ (HX5.out.below hb6) (HY5.out.below hb6) HGR.out hrl hb).mono ?_
    rintro e w7 ⟨u', rfl, hu', hb7⟩
    have h7 := h6.trans (hb7.mono h6.size)
    have hb57 := hb6.trans (hb7.mono hb6.size)
    have HU := Lib.hid hu'
    clear hu'
    go_wp2_with fail
    refine (implLow_yes shift_ok _ _ c1 c2 h wd a b G M _ (HT5.out.below hb57) (HM5.out.below hb57) HGD.out ha hb).mono ?_
    rintro e w8 ⟨u, rfl, hu, hb8⟩
    have hu2 := hu.rot ha
    rw [HR.out] at hu2
    obtain rfl : u' = u := HU.out.uniq hu2
    have h8 := h7.trans (hb8.mono h7.size)
    have uu : (u' == u') = true := by simp
    clear hu hu2
    go_wp2_with fail
    go_ret
    exact ⟨rfl, h8⟩
end Go.Proofs.Ythknlonelbfpaaa.fnHighOrder
