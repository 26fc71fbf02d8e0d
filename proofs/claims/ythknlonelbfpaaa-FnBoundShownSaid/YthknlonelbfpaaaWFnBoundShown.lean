/- The walk of the law FnBoundShown: for every code it returns true and leaves old memory alone. -/
import Derived.Test.YthknlonelbfpaaaHighC
import Derived.Test.YthknlonelbfpaaaShiftOk
import Derived.Test.YthknlonelbfpaaaGrid
import Derived.Test.YthknlonelbfpaaaCopyR
import Derived.Test.YthknlonelbfpaaaGridG
import Derived.Test.YthknlonelbfpaaaTailQ
import Derived.OpenShut
import Derived.Deep.RegionLaw
import Derived.Deep.RegionWith
import Derived.IntWalk
import Derived.ShutString
import Derived.BigQuiet
namespace Go.Proofs.Ythknlonelbfpaaa.fnBoundShown
open Go.RowKit
set_option linter.unusedVariables false

theorem high_bd {h wd a b : Nat} {G : Nat → Nat → Int} {M : Nat → Nat → Bool} {v : Int} (gd : Good h wd G) (ha : a < h) (hb : b < wd) (hv : IsHigh h wd G M a b v) : v ≤ 396 := by
  obtain ⟨X, hX, -, e⟩ := hv.got
  have := fit_own ha hb gd.h4 gd.w4 (fun i j => ⟨gd.lo i j, gd.hi i j⟩) hX
  omega
theorem shown_good {h wd k l : Nat} {G : Nat → Nat → Int} (gd : Good h wd G) (hx : G k l + 1 ≤ 99) : Good h wd (up2 G k l (G k l + 1)) :=
  ⟨gd.h1, gd.h4, gd.w1, gd.w4, fun i j => by unfold up2; have := gd.lo k l; have := gd.lo i j; split <;> omega, fun i j => by unfold up2; have := gd.hi i j; split <;> omega⟩
theorem shown_bad {h wd k l : Nat} {G : Nat → Nat → Int} (hk : k < h) (hl : l < wd) (hx : ¬ G k l + 1 ≤ 99) : tabValid (mkT h wd (up2 G k l (G k l + 1))) = false := by
  cases hv : tabValid (mkT h wd (up2 G k l (G k l + 1)))
  · rfl
  · exfalso
    have := (tabValid_iff.1 hv).2 _ (mkT_mem.2 ⟨k, hk, rfl⟩)
    have := this.2 _ (mkL_mem.2 ⟨l, hl, rfl⟩)
    simp [up2] at this
    omega

set_option maxRecDepth 100000 in
set_option maxHeartbeats 4000000 in
theorem walk (A : Option Addr) (c : Nat) (bs : List Int) (A' : Option Addr) (c' : Nat) (ms : List Int) (w : World) (hx : Seq ByteV w A bs) (hl : bs.length ≤ maxLen) (hc : bs.length ≤ c) (hcm : c ≤ maxLen) (hw : ∀ n ∈ bs, (Lit.int .u8 n).wf = true) (hx' : Seq ByteV w A' ms) (hl' : ms.length ≤ maxLen) (hc' : ms.length ≤ c') (hcm' : c' ≤ maxLen) (hw' : ∀ n ∈ ms, (Lit.int .u8 n).wf = true) :
    Calls Try.prog 8 #[.slice A bs.length c, .slice A' ms.length c'] w (Yes w) := by
  have hby : ∀ b ∈ bs, 0 ≤ b ∧ b ≤ 255 := fun b hb => bounds_u8 (hw b hb)
  have HB := Lib.hid hby
  clear hw hby hw' hx' hc' hcm'
  by_cases hbig : 1048576 < bs.length
  · unfold maxLen at hl hl'
    go_enter Try.func8, Try.ntmps8
    go_wp2
    go_ret
    exact ⟨rfl, Below.refl _ _⟩
  by_cases hbig' : 1048576 < ms.length
  · have hb1 : decide (1048576 < (bs.length : Int)) = false := by simp; omega
    unfold maxLen at hl hl'
    go_enter Try.func8, Try.ntmps8
    go_wp2
    go_ret
    exact ⟨rfl, Below.refl _ _⟩
  have hb1 : decide (1048576 < (bs.length : Int)) = false := by simp; omega
  have hb2 : decide (1048576 < (ms.length : Int)) = false := by simp; omega
  go_enter Try.func8, Try.ntmps8
  go_wp2_with fail
  refine (drawBoundHigh_any A c bs _ hx hl hc hcm HB.out).mono ?_
  rintro e w1 ⟨A1, c1, t, A2, c2, m, i, j, rfl, hc1, hT, hM, hsh, hm5, hi, hj, h1⟩
  clear hx hl hc hcm HB hb1 hb2
  have HT1 := Lib.hid hT
  have HM1 := Lib.hid hM
  rcases bound_cases A1 A2 c1 c2 t m i j w1 hT hM (by have := hsh.1; unfold maxLen; omega) (by unfold maxLen; omega) with ⟨HI, HS⟩ | ⟨h, wd, G, M, a, b, rfl, gd, rfl, ha, hb, rfl, rfl⟩
  · clear hT hM HT1 HM1 hsh hm5 hi hj hc1
    go_wp2_with fail
    refine (HI.out _ (Below.refl _ _)).mono ?_
    rintro e w2 ⟨rfl, hb2⟩
    go_wp2_with fail
    refine (HS.out _ hb2).mono ?_
    rintro e w3 ⟨rfl, hb3⟩
    go_wp2_with fail
    go_ret
    exact ⟨rfl, h1.trans ((hb2.trans (hb3.mono hb2.size)).mono h1.size)⟩
  · have g1 := gd.h1
    have g4 := gd.h4
    have k1 := gd.w1
    have k4 := gd.w4
    have HGD := Lib.hid gd
    have HF : Hid (∀ i j, 0 ≤ G i j) := Lib.hid fun i j => gd.lo i j
    rw [mkT_len] at hc1
    rw [mkT_len, mkT_len]
    clear hT hM hsh hm5 hi hj gd
    go_wp2_with fail
    refine (implHigh_yes shift_ok A1 A2 c1 c2 h wd a b G M _ HT1.out HM1.out HGD.out ha hb).mono ?_
    rintro e w2 ⟨v, rfl, hv, hb2⟩
    have HV := Lib.hid hv
    clear hv
    go_wp2_with fail
    refine (specHigh_yes A1 A2 c1 c2 h wd a b G M _ (HT1.out.below hb2) (HM1.out.below hb2) HGD.out ha hb).mono ?_
    rintro e w3 ⟨v', rfl, hv', hb3⟩
    obtain rfl : v = v' := HV.out.uniq hv'
    have v0 : 0 ≤ v := HV.out.nn
    have v9 : v ≤ 396 := high_bd HGD.out ha hb HV.out
    have vG : G a b ≤ v := HV.out.ge HF.out
    have vd : decide (v < 0) = false := decide_eq_false (by omega)
    have b13 := hb2.trans (hb3.mono hb2.size)
    have h3 := h1.trans (b13.mono h1.size)
    have HT3 := Lib.hid (HT1.out.below b13)
    have HM3 := Lib.hid (HM1.out.below b13)
    have a1 : (a : Int) < (h : Int) := by omega
    have b1 : (b : Int) < (wd : Int) := by omega
    clear HT1 HM1 hv' b13 hb2 hb3 h1

    obtain ⟨tb, tp, rfl, tr, tq, tc, hg⟩ := HT3.out.grid (by omega) (by omega)
    obtain ⟨mb, mp, rfl, mr, mq, mc, hn⟩ := HM3.out.grid (by omega) (by omega)
    have HG := Lib.hid hg
    have HN := Lib.hid hn
    clear hg hn

    obtain ⟨k, hk, hk1⟩ : ∃ k : Nat, (ms.length : Int) % (h : Int) = (k : Int) ∧ k < h := ⟨ms.length % h, by simp, Nat.mod_lt _ (by omega)⟩
    obtain ⟨d, ed, hd⟩ : ∃ d : Nat, (ms.length : Int).tdiv (h : Int) = (d : Int) ∧ d ≤ ms.length := ⟨ms.length / h, rfl, Nat.div_le_self _ _⟩
    obtain ⟨l, el, hl1⟩ : ∃ l : Nat, (d : Int).tmod (wd : Int) = (l : Int) ∧ l < wd := ⟨d % wd, by rw [Int.tmod_eq_emod_of_nonneg (by omega)]; rfl, Nat.mod_lt _ (by omega)⟩
    have ed2 : (ms.length : Int) / (h : Int) = (d : Int) := by rw [← ed, Int.tdiv_eq_ediv_of_nonneg (by omega)]
    have el2 : (d : Int) % (wd : Int) = (l : Int) := by rw [← el, Int.tmod_eq_emod_of_nonneg (by omega)]
    have wdd : IntKind.i64.wrap (d : Int) = (d : Int) := IntWalk.i64_in _ (by omega)
    have wll : IntKind.i64.wrap (l : Int) = (l : Int) := IntWalk.i64_in _ (by omega)
    have r0 := HG.out.row 0 (by omega)
    simp only [Nat.add_zero] at r0
    have h0' : ((h : Int) == 0) = false := beq_eq_false_iff_ne.2 (by omega)
    have w0' : ((wd : Int) == 0) = false := beq_eq_false_iff_ne.2 (by omega)
    have k1' : (k : Int) < (h : Int) := by omega
    have l1' : (l : Int) < (wd : Int) := by omega
    have ED := Lib.hid ed
    have EL := Lib.hid el
    have ED2 := Lib.hid ed2
    have EL2 := Lib.hid el2
    have WD := Lib.hid wdd
    have WL := Lib.hid wll
    clear ed el ed2 el2 wdd wll
    go_wp2_with fail
    rw [hk]
    clear hk
    have ed := ED.out
    have el := EL.out
    have wdd := WD.out
    have wll := WL.out
    go_quiet (fail)
    clear ed el wdd wll r0 h0' w0'

    have hcp := fun (W : World) (hW : Tab IntV W (some ⟨tb, tp, none⟩) (mkT h wd G)) => copyRows_any _ c1 _ W hW (by rw [mkT_len]; omega) (fun r hr => by obtain ⟨i, hi, rfl⟩ := mkT_mem.1 hr; rw [mkL_len]; omega)
    simp only [mkT_len] at hcp
    have HCP := Lib.hid hcp
    clear hcp
    go_wp2_with fail
    refine (HCP.out _ (HT3.out.below (below_drewN (Below.refl _ _) _))).mono ?_
    rintro e w4 ⟨A4, c4, vs, rfl, -, hgr, hb4⟩
    have hb34 : Below w3.heap.size w3 w4 := (below_drewN (Below.refl _ _) _).trans hb4
    obtain ⟨g4, rb, cp, rfl, hg4, hrb, hne, x1, x2, x3, hset⟩ := hgr.cel_ hk1 hl1
    have hs4 : w3.heap.size ≤ rb := hrb.1
    obtain ⟨x, hx⟩ : ∃ x, G k l = x := ⟨_, rfl⟩
    have xl := HGD.out.lo k l
    have xh := HGD.out.hi k l
    have hb5 : Below w3.heap.size w3 (w4.setCell ⟨rb, l, none⟩ (.int .i64 (x + 1))).drew := (hb34.setCell hs4 _).drew
    have HX5 : Hid (Tab IntV (w4.setCell ⟨rb, l, none⟩ (.int .i64 (x + 1))).drew (some ⟨g4, 0, none⟩) (mkT h wd (up2 G k l (x + 1)))) := Lib.hid (((hset (x + 1)).tab_ (mkT_len _ _ _)).below (below_drewN (Below.refl _ _) 1))
    have HT5 := Lib.hid (HT3.out.below hb5)
    have HM5 := Lib.hid (HM3.out.below hb5)
    have HN5 := Lib.hid (HN.out.below hb5)
    have HG5 := Lib.hid (HG.out.below hb5)
    have h5 := h3.trans (hb5.mono h3.size)
    simp only [IntV] at x2
    rw [hx] at x2 xl xh
    have HX := Lib.hid hx
    have wx : IntKind.i64.wrap (x + 1) = x + 1 := IntWalk.i64_in _ (by omega)
    have hmx : Try.prog.follows .mixedOrders = true := by kernel_rfl
    clear hset hgr hb34 hb4 HCP hb5 HT3 HM3 hx
    go_wp2_with fail
    refine tail_Q 14 hmx (by kernel_rfl) ?_
    simp only [List.take_succ_cons, List.take_zero, List.drop_succ_cons, List.drop_zero]
    repeat (first | go_big_quiet_skip | (go_big_quiet_want; go_big_quiet_op; go_big_quiet_on))
    refine wpQuiet_nil ?_
    clear wx
    go_upto_region 12 with (fail)
    obtain ⟨W5, hW5⟩ : ∃ W5 : World, W5 = (w4.setCell ⟨rb, l, none⟩ (.int .i64 (x + 1))).drew := ⟨_, rfl⟩
    rw [← hW5]
    rw [← hW5] at HX5 HT5 HM5 HN5 HG5 h5
    clear hW5 x1 x2 x3
    have nk := HN5.out.row k hk1
    have mkl := HN5.out.cell k l hk1 hl1
    have na := HN5.out.row a ha
    have mab := HN5.out.cell a b ha hb
    have ra := HG5.out.row a ha
    have cab := HG5.out.cell a b ha hb
    simp only [IntV] at cab
    simp only [BoolV] at mab mkl
    obtain ⟨z, hz⟩ : ∃ z, G a b = z := ⟨_, rfl⟩
    rw [hz] at cab vG
    have hva := implTableValid_any (some ⟨g4, 0, none⟩) c4 (mkT h wd (up2 G k l (x + 1))) W5 HX5.out (by rw [mkT_len]; unfold maxLen; omega)
    rw [mkT_len] at hva
    have HVA := Lib.hid hva
    clear hva hz
    cases hm : M k l
    · rw [hm] at mkl
      cases hM : M a b
      · rw [hM] at mab
        clear hm hM
        go_wp2_with fail
        go_ret
        exact ⟨rfl, h5⟩
      · rw [hM] at mab
        have Hm := Lib.hid hm
        have HMM := Lib.hid hM
        by_cases hx9 : x + 1 ≤ 99
        · have hg9 := shown_good (k := k) (l := l) HGD.out (by rw [HX.out]; exact hx9)
          rw [HX.out] at hg9
          have HG9 := Lib.hid hg9
          have hval := HVA.out
          rw [hg9.valid] at hval
          have HVB := Lib.hid hval
          have hv9 : IsHigh h wd (up2 G k l (x + 1)) M a b v := HV.out.shown hk1 hl1 (HF.out _ _) hM hm (by omega)
          have HV9 := Lib.hid hv9
          have vv : (v == v) = true := by simp
          clear hm hM hx9 hg9 hval hv9
          go_wp2_with fail
          refine HVB.out.mono ?_
          rintro e w' ⟨rfl, rfl⟩
          go_wp2_with fail
          refine (implHigh_yes shift_ok _ _ c4 c2 h wd a b (up2 G k l (x + 1)) M _ HX5.out HM5.out HG9.out ha hb).mono ?_
          rintro e w6 ⟨v', rfl, hv', hb6⟩
          obtain rfl : v = v' := HV9.out.uniq hv'
          have h6 := h5.trans (hb6.mono h5.size)
          clear hv'
          go_wp2_with fail
          refine (implLow_yes shift_ok _ _ c4 c2 h wd a b (up2 G k l (x + 1)) M _ (HX5.out.below hb6) (HM5.out.below hb6) HG9.out ha hb).mono ?_
          rintro e w7 ⟨u', rfl, hu', hb7⟩
          have h7 := h6.trans (hb7.mono h6.size)
          have hb57 := hb6.trans (hb7.mono hb6.size)
          have HU := Lib.hid hu'
          clear hu'
          go_wp2_with fail
          refine (implLow_yes shift_ok _ _ c1 c2 h wd a b G M _ (HT5.out.below hb57) (HM5.out.below hb57) HGD.out ha hb).mono ?_
          rintro e w8 ⟨u, rfl, hu, hb8⟩
          obtain rfl : u' = u := HU.out.uniq (hu.shown hk1 hl1 (HF.out _ _) HMM.out Hm.out (by omega))
          have h8 := h7.trans (hb8.mono h7.size)
          have uu : (u' == u') = true := by simp
          clear hu
          go_wp2_with fail
          go_ret
          exact ⟨rfl, h8⟩
        · have hval := HVA.out
          have hbad := shown_bad (G := G) hk1 hl1 (by rw [HX.out]; exact hx9)
          rw [HX.out] at hbad
          rw [hbad] at hval
          have HVB := Lib.hid hval
          clear hm hM hx9 hval hbad
          go_wp2_with fail
          refine HVB.out.mono ?_
          rintro e w' ⟨rfl, rfl⟩
          go_wp2_with fail
          go_ret
          exact ⟨rfl, h5⟩
    · rw [hm] at mkl
      clear hm
      go_wp2_with fail
      go_ret
      exact ⟨rfl, h5⟩
end Go.Proofs.Ythknlonelbfpaaa.fnBoundShown
