/- The walk of the law FnFitSwap: for every code it returns true and leaves old memory alone. -/
import Derived.Test.YtncnghmadeghlaaFitI
import Derived.Test.YtncnghmadeghlaaFitS
import Derived.Test.YtncnghmadeghlaaDFit
import Derived.Test.YtncnghmadeghlaaCopyR
import Derived.Test.YtncnghmadeghlaaGridG
import Derived.Test.YtncnghmadeghlaaTailQ
import Derived.OpenShut
import Derived.Deep.RegionLaw
import Derived.Deep.RegionWith
import Derived.IntWalk
import Derived.ShutString
import Derived.BigQuiet
namespace Go.Proofs.Ytncnghmadeghlaa.fnFitSwap
open Go.RowKit
set_option linter.unusedVariables false

open Go.BigFrame
theorem fit_parts {h wd : Nat} {G : Nat → Nat → Int} {M : Nat → Nat → Bool} {X : Nat → Nat → Int} (hf : fitM h wd G M X = true) : (∀ i j, i < h → j < wd → 0 ≤ X i j ∧ X i j ≤ 396 ∧ (M i j = false → X i j = G i j)) ∧ (∀ i, i < h → sumN wd (G i) = sumN wd (X i)) ∧ (∀ j, j < wd → (sumN h fun i => G i j) = sumN h fun i => X i j) := by
  rw [fitM, Bool.and_eq_true, sumsFit, Bool.and_eq_true, decide_eq_true_eq, decide_eq_true_eq] at hf
  exact ⟨fun i j hi hj => cellFit_iff.1 (cellsFit_iff.1 hf.1 i j hi hj), fun i hi => mkL_inj hf.2.1 hi, fun j hj => mkL_inj hf.2.2 hj⟩
theorem fit_back {h wd : Nat} {G : Nat → Nat → Int} {M : Nat → Nat → Bool} {X : Nat → Nat → Int} (h1 : ∀ i j, i < h → j < wd → 0 ≤ X i j ∧ X i j ≤ 396 ∧ (M i j = false → X i j = G i j)) (h2 : ∀ i, i < h → sumN wd (G i) = sumN wd (X i)) (h3 : ∀ j, j < wd → (sumN h fun i => G i j) = sumN h fun i => X i j) : fitM h wd G M X = true := by
  rw [fitM, Bool.and_eq_true, sumsFit, Bool.and_eq_true, decide_eq_true_eq, decide_eq_true_eq]
  exact ⟨cellsFit_iff.2 fun i j hi hj => cellFit_iff.2 (h1 i j hi hj), mkL_ext fun i hi => h2 i hi, mkL_ext fun j hj => h3 j hj⟩
/-- the middle of two tables -/
def midF (h wd : Nat) (G X : Nat → Nat → Int) (i j : Nat) : Nat → Nat → Int := fun a b => if a < i ∨ (a = i ∧ b < j) then (G a b + X a b) / 2 else G a b
theorem mid_zero (h wd : Nat) (G X : Nat → Nat → Int) : midF h wd G X 0 0 = G := by funext a b; simp [midF]
theorem mid_step (h wd : Nat) (G X : Nat → Nat → Int) (i j : Nat) : up2 (midF h wd G X i j) i j ((G i j + X i j) / 2) = midF h wd G X i (j + 1) := by
  funext a b
  unfold up2 midF
  by_cases e : a = i ∧ b = j
  · obtain ⟨rfl, rfl⟩ := e; simp
  · rw [if_neg e]
    by_cases e2 : a < i ∨ (a = i ∧ b < j)
    · rw [if_pos e2, if_pos (by omega)]
    · rw [if_neg e2, if_neg (by omega)]
theorem mid_next {h wd : Nat} (G X : Nat → Nat → Int) (i : Nat) : mkT h wd (midF h wd G X i wd) = mkT h wd (midF h wd G X (i + 1) 0) := mkT_ext fun a b ha hb => by
  unfold midF
  by_cases e : a < i + 1
  · rw [if_pos (by omega), if_pos (.inl e)]
  · rw [if_neg (by omega), if_neg (by omega)]
theorem mid_all {h wd : Nat} (G X : Nat → Nat → Int) : mkT h wd (midF h wd G X h 0) = mkT h wd fun a b => (G a b + X a b) / 2 := mkT_ext fun a b ha hb => by
  unfold midF; rw [if_pos (.inl ha)]
/-- all sums so far are even -/
def evenB (G X : Nat → Nat → Int) (pre : List (Nat × Nat)) : Bool := pre.all fun q => decide ((G q.1 q.2 + X q.1 q.2) % 2 = 0)
theorem even_step (G X : Nat → Nat → Int) (pre : List (Nat × Nat)) (i j : Nat) : evenB G X (pre ++ [(i, j)]) = (evenB G X pre && decide ((G i j + X i j) % 2 = 0)) := by simp [evenB]
theorem sum_half {n : Nat} {f g : Nat → Int} (he : ∀ i, i < n → (f i + g i) % 2 = 0) : 2 * sumN n (fun i => (f i + g i) / 2) = sumN n f + sumN n g := by
  induction n with
  | zero => rfl
  | succ n ih =>
    simp only [sumN]
    have h1 := ih fun i hi => he i (by omega)
    have h2 := he n (by omega)
    omega
theorem swap_fit {h wd : Nat} {G : Nat → Nat → Int} {M : Nat → Nat → Bool} {X : Nat → Nat → Int} (gd : Good h wd G) (hf : fitM h wd G M X = true) : fitM h wd X M G = true := by
  obtain ⟨h1, h2, h3⟩ := fit_parts hf
  exact fit_back (fun i j hi hj => ⟨gd.lo i j, by have := gd.hi i j; omega, fun e => ((h1 i j hi hj).2.2 e).symm⟩) (fun i hi => (h2 i hi).symm) fun j hj => (h3 j hj).symm
theorem mid_fit {h wd : Nat} {G : Nat → Nat → Int} {M : Nat → Nat → Bool} {X : Nat → Nat → Int} (gd : Good h wd G) (hf : fitM h wd G M X = true) (he : evenB G X (cp wd h 0) = true) : fitM h wd G M (fun a b => (G a b + X a b) / 2) = true := by
  obtain ⟨h1, h2, h3⟩ := fit_parts hf
  have hev : ∀ i j, i < h → j < wd → (G i j + X i j) % 2 = 0 := fun i j hi hj => by
    have := List.all_eq_true.1 he (i, j) (cp_mem.2 (.inl ⟨hi, hj⟩))
    simpa using this
  refine fit_back (fun i j hi hj => ?_) (fun i hi => ?_) fun j hj => ?_
  · have q1 := h1 i j hi hj
    have q2 := gd.lo i j
    have q3 := gd.hi i j
    refine ⟨by omega, by omega, fun e => ?_⟩
    rw [q1.2.2 e]; omega
  · have := sum_half fun j hj => hev i j hi hj
    have := h2 i hi
    omega
  · have := sum_half (f := fun i => G i j) (g := fun i => X i j) fun i hi => hev i j hi hj
    have := h3 j hj
    omega

set_option maxRecDepth 100000 in
set_option maxHeartbeats 4000000 in
theorem walk (A : Option Addr) (c : Nat) (bs : List Int) (w : World) (hx : Seq ByteV w A bs) (hl : bs.length ≤ maxLen) (hc : bs.length ≤ c) (hcm : c ≤ maxLen) (hw : ∀ n ∈ bs, (Lit.int .u8 n).wf = true) :
    Calls Try.prog 13 #[.slice A bs.length c] w (Yes w) := by
  have hby : ∀ b ∈ bs, 0 ≤ b ∧ b ≤ 255 := fun b hb => bounds_u8 (hw b hb)
  have HB := Lib.hid hby
  clear hw hby
  by_cases hbig : 1048576 < bs.length
  · unfold maxLen at hl
    go_enter Try.func13, Try.ntmps13
    go_wp2
    go_ret
    exact ⟨rfl, Below.refl _ _⟩
  have hb1 : decide (1048576 < (bs.length : Int)) = false := by simp; omega
  go_enter Try.func13, Try.ntmps13
  go_wp2_with fail
  refine (drawFit_any A c bs _ hx hl hc hcm HB.out).mono ?_
  rintro e w1 ⟨A1, c1, t, A2, c2, m, A3, c3, x, rfl, hT, hM, hX, ht4, hm5, hx4, h1⟩
  clear hx hl hc hcm HB hb1
  have hi := implFit_any A1 A2 A3 c1 c2 c3 t m x w1 hT hM hX (by unfold maxLen; omega) (by unfold maxLen; omega)
  have hs := fun w (hT : Tab IntV w A1 t) (hM : Tab BoolV w A2 m) (hX : Tab IntV w A3 x) => specFit_any A1 A2 A3 c1 c2 c3 t m x w hT hM hX (by unfold maxLen; omega) (by unfold maxLen; omega)
  have HT1 := Lib.hid hT
  have HM1 := Lib.hid hM
  have HX1 := Lib.hid hX
  clear hT hM hX
  by_cases hR : fitT t m x = false
  · rw [hR] at hi
    simp only [hR] at hs
    have HI := Lib.hid hi
    have HS := Lib.hid hs
    clear hi hs hR
    go_wp2_with fail
    refine HI.out.mono ?_
    rintro e w2 ⟨rfl, hb2⟩
    go_wp2_with fail
    refine (HS.out _ (HT1.out.below hb2) (HM1.out.below hb2) (HX1.out.below hb2)).mono ?_
    rintro e w3 ⟨rfl, hb3⟩
    go_wp2_with fail
    go_ret
    exact ⟨rfl, h1.trans ((hb2.trans (hb3.mono hb2.size)).mono h1.size)⟩
  · replace hR : fitT t m x = true := by simpa using hR
    rw [hR] at hi
    simp only [hR] at hs
    obtain ⟨h, wd, G, M, X, rfl, gd, rfl, rfl, h0, hfm⟩ : ∃ h wd G M X, t = mkT h wd G ∧ Good h wd G ∧ m = mkT h wd M ∧ x = mkT h wd X ∧ (∀ i j, ¬ (i < h ∧ j < wd) → X i j = 0) ∧ fitM h wd G M X = true := by
      rcases fit_cases t m x with ⟨-, e⟩ | ⟨h, wd, G, M, -, -, -, -, e⟩ | ⟨h, wd, G, M, X, h1, h2, h3, h4, h5, e⟩
      · rw [e] at hR; cases hR
      · rw [e] at hR; cases hR
      · exact ⟨h, wd, G, M, X, h1, h2, h3, h4, h5, by rw [← e]; exact hR⟩
    rw [mkT_len, mkT_len, mkT_len] at hi
    simp only [mkT_len] at hs
    rw [mkT_len, mkT_len, mkT_len]
    rw [mkT_len] at ht4 hm5 hx4
    have g1 := gd.h1
    have k1 := gd.w1
    have k4 := gd.w4
    have HI := Lib.hid hi
    have HS := Lib.hid hs
    have HGD := Lib.hid gd
    have H0 := Lib.hid h0
    have HFM := Lib.hid hfm
    clear hi hs hR gd h0 hfm hm5 hx4
    go_wp2_with fail
    refine HI.out.mono ?_
    rintro e w2 ⟨rfl, hb2⟩
    go_wp2_with fail
    refine (HS.out _ (HT1.out.below hb2) (HM1.out.below hb2) (HX1.out.below hb2)).mono ?_
    rintro e w3 ⟨rfl, hb3⟩
    have b13 := hb2.trans (hb3.mono hb2.size)
    have h3 := h1.trans (b13.mono h1.size)
    have HT3 := Lib.hid (HT1.out.below b13)
    have HM3 := Lib.hid (HM1.out.below b13)
    have HX3 := Lib.hid (HX1.out.below b13)
    clear HT1 HM1 HX1 HI HS b13 hb2 hb3 h1

    have hv := implTableValid_any A3 c3 (mkT h wd X) w3 HX3.out (by rw [mkT_len]; unfold maxLen; omega)
    have hv2 := implTableValid_any A1 c1 (mkT h wd G) w3 HT3.out (by rw [mkT_len]; unfold maxLen; omega)
    rw [mkT_len] at hv
    rw [mkT_len, HGD.out.valid] at hv2
    have HV2 := Lib.hid hv2
    clear hv2
    cases hvx : tabValid (mkT h wd X)
    · rw [hvx] at hv
      have HV := Lib.hid hv
      clear hv hvx
      go_wp2_with fail
      refine HV.out.mono ?_
      rintro e w' ⟨rfl, rfl⟩
      go_wp2_with fail
      refine HV2.out.mono ?_
      rintro e w' ⟨rfl, rfl⟩
      go_wp2_with fail
      go_ret
      exact ⟨rfl, h3⟩
    · rw [hvx] at hv
      have HV := Lib.hid hv
      obtain ⟨X', gx, eX, hXX⟩ : ∃ X', Good h wd X' ∧ mkT h wd X = mkT h wd X' ∧ ∀ i j, i < h → j < wd → X' i j = X i j := by
        rcases tab_cases (mkT h wd X) with e | ⟨h', wd', X', e, g⟩
        · rw [e] at hvx; cases hvx
        · have e1 : h = h' := by have := congrArg List.length e; rwa [mkT_len, mkT_len] at this
          subst e1
          have e2 : wd = wd' := by
            have := congrArg (fun t => (t[0]?).map List.length) e
            simp only [mkT_get _ (show 0 < h by omega), Option.map_some, mkL_len] at this
            injection this
          subst e2
          exact ⟨X', g, e, fun i j hi hj => (mkT_inj e hi hj).symm⟩
      have hfm' : fitM h wd G M X' = true := by
        rw [fitM_ext (fun _ _ _ _ => rfl) (fun _ _ _ _ => rfl) hXX]; exact HFM.out
      have HGX := Lib.hid gx
      have HFM' := Lib.hid hfm'
      rw [eX] at HX3
      have hcp := copyRows_any A1 c1 (mkT h wd G) w3 HT3.out (by rw [mkT_len]; omega) (fun r hr => by obtain ⟨i, hi, rfl⟩ := mkT_mem.1 hr; rw [mkL_len]; omega)
      rw [mkT_len] at hcp
      have HCP := Lib.hid hcp
      have hmx : Try.prog.follows .mixedOrders = true := by kernel_rfl
      clear hv hvx eX hXX hfm' gx hcp HFM H0 X
      go_wp2_with fail
      refine HV.out.mono ?_
      rintro e w' ⟨rfl, rfl⟩
      go_wp2_with fail
      refine HCP.out.mono ?_
      rintro e w4 ⟨A4, c4, vs, rfl, -, hgr, hb4⟩
      obtain ⟨g, rfl, -, -, -, -⟩ := hgr.outer_ (j := 0) (by rw [mkT_len]; omega)
      obtain ⟨lo, hlo⟩ : ∃ lo, lo = w3.heap.size := ⟨_, rfl⟩
      have HG4 : Hid (Grow IntV 42 3 lo w4 (.slice (some ⟨g, 0, none⟩) h c4) vs (mkT h wd (midF h wd G X' 0 0))) := Lib.hid (by rw [mid_zero, hlo]; exact hgr)
      have HB4 := Lib.hid hb4
      have HLO := Lib.hid hlo
      clear hgr hb4 hlo HCP HV HV2
      go_wp2_with fail
      go_loopw [9, 10] (fun ev i wr => ∃ k : Nat, k ≤ h ∧ i = .int .i64 k ∧ ev = .bool (evenB G X' (cp wd k 0)) ∧ Hid (Grow IntV 42 3 lo wr (.slice (some ⟨g, 0, none⟩) h c4) vs (mkT h wd (midF h wd G X' k 0))) ∧ Hid (Below w3.heap.size w3 wr)) (fun _ i _ => h - (intOf i).toNat)
      case atStart => exact ⟨0, Nat.zero_le _, rfl, rfl, HG4, HB4⟩
      case round =>
        clear HG4 HB4
        obtain ⟨k, hk, rfl, rfl, HG, HBW⟩ := hrel
        obtain ⟨wo, rfl⟩ : ∃ wo : World, wo = wr := ⟨_, rfl⟩
        by_cases hlt : k < h
        · obtain ⟨ev, hev⟩ : ∃ ev, evenB G X' (cp wd k 0) = ev := ⟨_, rfl⟩
          have HEV := Lib.hid hev
          rw [hev]
          clear hev
          go_wp2_with fail
          go_loopw [9, 11] (fun ev i wr => ∃ j : Nat, j ≤ wd ∧ i = .int .i64 j ∧ ev = .bool (evenB G X' (cp wd k j)) ∧ Hid (Grow IntV 42 3 lo wr (.slice (some ⟨g, 0, none⟩) h c4) vs (mkT h wd (midF h wd G X' k j))) ∧ Hid (Below w3.heap.size w3 wr)) (fun _ i _ => wd - (intOf i).toNat)
          case atStart => exact ⟨0, Nat.zero_le _, rfl, by rw [HEV.out], HG, HBW⟩
          case round =>
            clear HG HBW HEV
            obtain ⟨j, hj', rfl, rfl, HG, HBW⟩ := hrel
            obtain ⟨W, rfl⟩ : ∃ W : World, W = wr := ⟨_, rfl⟩
            obtain ⟨tb, tp, rfl, tr, tq, tc, hgT⟩ := (HT3.out.below HBW.out).grid (by omega) (by omega)
            obtain ⟨xb, xp, rfl, xr, xq, xc, hgX⟩ := (HX3.out.below HBW.out).grid (by omega) (by omega)
            have tr1 := hgT.row k hlt
            have i1 : (k : Int) < (h : Int) := by omega
            obtain ⟨ev, hev⟩ : ∃ ev, evenB G X' (cp wd k j) = ev := ⟨_, rfl⟩
            have HEV := Lib.hid hev
            rw [hev]
            clear hev
            by_cases hj : j < wd
            · have tc1 := hgT.cell k j hlt hj
              have xr1 := hgX.row k hlt
              have xc1 := hgX.cell k j hlt hj
              simp only [IntV] at tc1 xc1
              obtain ⟨g1, rb, cp1, e1, hg1, hrb, hne, y1, y2, y3, hset⟩ := HG.out.cel_ hlt hj
              injection e1 with e1
              injection e1 with e1
              subst e1
              obtain ⟨u, hu⟩ : ∃ u, G k j = u := ⟨_, rfl⟩
              obtain ⟨v, hv⟩ : ∃ v, X' k j = v := ⟨_, rfl⟩
              have u0 := HGD.out.lo k j
              have u1 := HGD.out.hi k j
              have v0 := HGX.out.lo k j
              have v1 := HGX.out.hi k j
              have hs := hset ((G k j + X' k j) / 2)
              rw [mid_step] at hs
              rw [hu] at tc1 u0 u1 hs
              rw [hv] at xc1 v0 v1 hs
              have j1 : (j : Int) < (wd : Int) := by omega
              have wuv : IntKind.i64.wrap (u + v) = u + v := IntWalk.i64_in _ (by omega)
              have td : (u + v).tdiv 2 = (u + v) / 2 := Int.tdiv_eq_ediv_of_nonneg (by omega)
              have tm : (u + v).tmod 2 = (u + v) % 2 := Int.tmod_eq_emod_of_nonneg (by omega)
              obtain ⟨z, hz, z0, z1⟩ : ∃ z, (u + v) / 2 = z ∧ 0 ≤ z ∧ z ≤ 1000 := ⟨_, rfl, by omega, by omega⟩
              obtain ⟨o, ho, o0, o1⟩ : ∃ o, (u + v) % 2 = o ∧ 0 ≤ o ∧ o ≤ 1 := ⟨_, rfl, by omega, by omega⟩
              rw [hz] at td hs
              rw [ho] at tm
              have wz : IntKind.i64.wrap z = z := IntWalk.i64_in _ (by omega)
              have wo2 : IntKind.i64.wrap o = o := IntWalk.i64_in _ (by omega)
              have hee : evenB G X' (cp wd k (j + 1)) = (ev && (o == 0)) := by
                rw [cp_step, even_step, HEV.out, hu, hv, ho]
                by_cases e : o = 0 <;> simp [e]
              have HS := Lib.hid hs
              have HEE := Lib.hid hee
              have TD := Lib.hid td
              have TM := Lib.hid tm
              have WUV := Lib.hid wuv
              have WZ := Lib.hid wz
              have WO := Lib.hid wo2
              have HZO := Lib.hid (And.intro hz ho)
              have hlo2 := HLO.out
              clear hset hs hee hu hv hz ho td tm wuv wz wo2 hg1 hgT hgX
              cases ev
              · go_wp2_with fail
                have td := TD.out
                have tm := TM.out
                have wuv := WUV.out
                have wz := WZ.out
                have wo2 := WO.out
                go_quiet (fail)
                go_wp2_with fail
                refine tail_Q 22 hmx (by kernel_rfl) ?_
                simp only [List.take_succ_cons, List.take_zero, List.drop_succ_cons, List.drop_zero]
                repeat (first | go_big_quiet_skip | (go_big_quiet_want; go_big_quiet_op; go_big_quiet_on))
                refine wpQuiet_nil ?_
                clear td tm wuv wz wo2
                go_wp2_with fail
                go_roundw
                case rel => exact ⟨j + 1, by omega, by go_num, by rw [HEE.out]; simp, Lib.hid (HS.out.below (below_drewN (Below.refl _ _) _)), Lib.hid (below_drewN (HBW.out.setCell (p := ⟨rb, j, none⟩) (by simp; omega) _) _)⟩
                case measure => simp [intOf]; omega
              · go_wp2_with fail
                have td := TD.out
                have tm := TM.out
                have wuv := WUV.out
                have wz := WZ.out
                have wo2 := WO.out
                go_quiet (fail)
                go_wp2_with fail
                refine tail_Q 22 hmx (by kernel_rfl) ?_
                simp only [List.take_succ_cons, List.take_zero, List.drop_succ_cons, List.drop_zero]
                repeat (first | go_big_quiet_skip | (go_big_quiet_want; go_big_quiet_op; go_big_quiet_on))
                refine wpQuiet_nil ?_
                clear td tm wuv wz wo2
                go_wp2_with fail
                go_roundw
                case rel => exact ⟨j + 1, by omega, by go_num, by rw [HEE.out]; simp, Lib.hid (HS.out.below (below_drewN (Below.refl _ _) _)), Lib.hid (below_drewN (HBW.out.setCell (p := ⟨rb, j, none⟩) (by simp; omega) _) _)⟩
                case measure => simp [intOf]; omega
            · obtain rfl : j = wd := by omega
              have HG5 : Hid (Grow IntV 42 3 lo W (.slice (some ⟨g, 0, none⟩) h c4) vs (mkT h j (midF h j G X' (k + 1) 0))) := Lib.hid (by rw [← mid_next]; exact HG.out)
              have HEV2 : Hid (evenB G X' (cp j (k + 1) 0) = ev) := Lib.hid (by rw [← cp_next]; exact HEV.out)
              clear hgT hgX
              go_wp2_with fail
              go_roundw
              case rel => exact ⟨k + 1, by omega, by go_num, by rw [HEV2.out], HG5, HBW⟩
              case measure => simp [intOf]; omega
        · obtain rfl : k = h := by omega
          have h5 := h3.trans (HBW.out.mono h3.size)
          have HT5 := Lib.hid (HT3.out.below HBW.out)
          have HM5 := Lib.hid (HM3.out.below HBW.out)
          have HX5 := Lib.hid (HX3.out.below HBW.out)
          have HY5 : Hid (Tab IntV wo (some ⟨g, 0, none⟩) (mkT k wd fun a b => (G a b + X' a b) / 2)) := Lib.hid (by rw [← mid_all]; exact HG.out.tab_ (mkT_len _ _ _))
          have ha := implFit_any A3 A2 A1 c3 c2 c1 (mkT k wd X') (mkT k wd M) (mkT k wd G) wo HX5.out HM5.out HT5.out (by rw [mkT_len]; unfold maxLen; omega) (by rw [mkT_len]; unfold maxLen; omega)
          rw [mkT_len, mkT_len, mkT_len, fitT_mk HGX.out, swap_fit HGD.out HFM'.out] at ha
          have HA := Lib.hid ha
          obtain ⟨ev, hev⟩ : ∃ ev, evenB G X' (cp wd k 0) = ev := ⟨_, rfl⟩
          rw [hev]
          clear ha
          cases ev
          · clear hev
            go_wp2_with fail
            refine HA.out.mono ?_
            rintro e w6 ⟨rfl, hb6⟩
            have h6 := h5.trans (hb6.mono h5.size)
            go_wp2_with fail
            go_ret
            exact ⟨rfl, h6⟩
          · have hbb := fun (W : World) (hb : Below wo.heap.size wo W) => implFit_any A1 A2 (some ⟨g, 0, none⟩) c1 c2 c4 (mkT k wd G) (mkT k wd M) (mkT k wd fun a b => (G a b + X' a b) / 2) W (HT5.out.below hb) (HM5.out.below hb) (HY5.out.below hb) (by rw [mkT_len]; unfold maxLen; omega) (by rw [mkT_len]; unfold maxLen; omega)
            simp only [mkT_len, fitT_mk HGD.out, mid_fit HGD.out HFM'.out hev] at hbb
            have HBB := Lib.hid hbb
            clear hbb hev
            go_wp2_with fail
            refine HA.out.mono ?_
            rintro e w6 ⟨rfl, hb6⟩
            have h6 := h5.trans (hb6.mono h5.size)
            go_wp2_with fail
            refine (HBB.out _ hb6).mono ?_
            rintro e w7 ⟨rfl, hb7⟩
            have h7 := h6.trans (hb7.mono h6.size)
            go_wp2_with fail
            go_ret
            exact ⟨rfl, h7⟩
end Go.Proofs.Ytncnghmadeghlaa.fnFitSwap
