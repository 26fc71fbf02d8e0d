/- The walk of the law FnFit: for every code it returns true and leaves old memory alone. -/
import Derived.Test.YtncnghmadeghlaaFitI
import Derived.Test.YtncnghmadeghlaaFitS
import Derived.Test.YtncnghmadeghlaaDFit
import Derived.Test.YtncnghmadeghlaaGrid
import Derived.Test.YtncnghmadeghlaaSumOfL
import Derived.Test.YtncnghmadeghlaaTailQ
import Derived.OpenShut
import Derived.Deep.RegionLaw
import Derived.Deep.RegionWith
import Derived.IntWalk
import Derived.ShutString
import Derived.BigQuiet
namespace Go.Proofs.Ytncnghmadeghlaa.fnFit
open Go.RowKit
set_option linter.unusedVariables false

open Go.BigFrame
theorem fit_parts {h wd : Nat} {G : Nat → Nat → Int} {M : Nat → Nat → Bool} {X : Nat → Nat → Int} (hf : fitM h wd G M X = true) : (∀ i j, i < h → j < wd → 0 ≤ X i j ∧ X i j ≤ 396 ∧ (M i j = false → X i j = G i j)) ∧ (∀ i, i < h → sumN wd (G i) = sumN wd (X i)) ∧ (∀ j, j < wd → (sumN h fun i => G i j) = sumN h fun i => X i j) := by
  rw [fitM, Bool.and_eq_true, sumsFit, Bool.and_eq_true, decide_eq_true_eq, decide_eq_true_eq] at hf
  exact ⟨fun i j hi hj => cellFit_iff.1 (cellsFit_iff.1 hf.1 i j hi hj), fun i hi => mkL_inj hf.2.1 hi, fun j hj => mkL_inj hf.2.2 hj⟩
theorem fit_back {h wd : Nat} {G : Nat → Nat → Int} {M : Nat → Nat → Bool} {X : Nat → Nat → Int} (h1 : ∀ i j, i < h → j < wd → 0 ≤ X i j ∧ X i j ≤ 396 ∧ (M i j = false → X i j = G i j)) (h2 : ∀ i, i < h → sumN wd (G i) = sumN wd (X i)) (h3 : ∀ j, j < wd → (sumN h fun i => G i j) = sumN h fun i => X i j) : fitM h wd G M X = true := by
  rw [fitM, Bool.and_eq_true, sumsFit, Bool.and_eq_true, decide_eq_true_eq, decide_eq_true_eq]
  exact ⟨cellsFit_iff.2 fun i j hi hj => cellFit_iff.2 (h1 i j hi hj), mkL_ext fun i hi => h2 i hi, mkL_ext fun j hj => h3 j hj⟩
theorem self_fit {h wd : Nat} {G : Nat → Nat → Int} (M : Nat → Nat → Bool) (gd : Good h wd G) : fitM h wd G M G = true := fit_back (fun i j _ _ => ⟨gd.lo i j, by have := gd.hi i j; omega, fun _ => rfl⟩) (fun _ _ => rfl) fun _ _ => rfl
/-- between two cells -/
structure FRel (w3 : World) (lo h wd : Nat) (G X : Nat → Nat → Int) (rb cb cr cc : Nat) (pre : List (Nat × Nat)) (W : World) : Prop where
  rows : W.ownsRow lo 3 1 (.slice (some ⟨rb, 0, none⟩) h cr) h ((mkL h fun i => sumN wd (G i)).map IntV)
  cols : W.ownsRow lo 3 1 (.slice (some ⟨cb, 0, none⟩) wd cc) wd ((mkL wd fun a => (sumN h fun i => G i a) - acc X (fun z => z.2 == a) pre).map IntV)
  bel : Below w3.heap.size w3 W
theorem FRel.drewN {w3 : World} {lo h wd : Nat} {G X : Nat → Nat → Int} {rb cb cr cc : Nat} {pre : List (Nat × Nat)} {W : World} (hf : FRel w3 lo h wd G X rb cb cr cc pre W) (n : Nat) : FRel w3 lo h wd G X rb cb cr cc pre (W.drewN n) :=
  ⟨own_below hf.rows (below_drewN (Below.refl _ _) n), own_below hf.cols (below_drewN (Below.refl _ _) n), below_drewN hf.bel n⟩

set_option maxRecDepth 100000 in
set_option maxHeartbeats 4000000 in
theorem walk (A : Option Addr) (c : Nat) (bs : List Int) (w : World) (hx : Seq ByteV w A bs) (hl : bs.length ≤ maxLen) (hc : bs.length ≤ c) (hcm : c ≤ maxLen) (hw : ∀ n ∈ bs, (Lit.int .u8 n).wf = true) :
    Calls Try.prog 14 #[.slice A bs.length c] w (Yes w) := by
  have hby : ∀ b ∈ bs, 0 ≤ b ∧ b ≤ 255 := fun b hb => bounds_u8 (hw b hb)
  have HB := Lib.hid hby
  clear hw hby
  by_cases hbig : 1048576 < bs.length
  · unfold maxLen at hl
    go_enter Try.func14, Try.ntmps14
    go_wp2
    go_ret
    exact ⟨rfl, Below.refl _ _⟩
  have hb1 : decide (1048576 < (bs.length : Int)) = false := by simp; omega
  go_enter Try.func14, Try.ntmps14
  go_wp2_with fail
  refine (drawFit_any A c bs _ hx hl hc hcm HB.out).mono ?_
  rintro e w1 ⟨A1, c1, t, A2, c2, m, A3, c3, x, rfl, hT, hM, hX, ht4, hm5, hx4, h1⟩
  clear hx hl hc hcm HB hb1
  have hi := implFit_any A1 A2 A3 c1 c2 c3 t m x w1 hT hM hX (by unfold maxLen; omega) (by unfold maxLen; omega)
  have hs := fun w (hT : Tab IntV w A1 t) (hM : Tab BoolV w A2 m) (hX : Tab IntV w A3 x) => specFit_any A1 A2 A3 c1 c2 c3 t m x w hT hM hX (by unfold maxLen; omega) (by unfold maxLen; omega)
  have HT1 := Lib.hid hT
  have HM1 := Lib.hid hM
  have HX1 := Lib.hid hX
  clear hT hM hX
  by_cases hR : fitT t m x = false
  · rw [hR] at hi
    simp only [hR] at hs
    have HI := Lib.hid hi
    have HS := Lib.hid hs
    clear hi hs hR
    go_wp2_with fail
    refine HI.out.mono ?_
    rintro e w2 ⟨rfl, hb2⟩
    go_wp2_with fail
    refine (HS.out _ (HT1.out.below hb2) (HM1.out.below hb2) (HX1.out.below hb2)).mono ?_
    rintro e w3 ⟨rfl, hb3⟩
    go_wp2_with fail
    go_ret
    exact ⟨rfl, h1.trans ((hb2.trans (hb3.mono hb2.size)).mono h1.size)⟩
  · replace hR : fitT t m x = true := by simpa using hR
    rw [hR] at hi
    simp only [hR] at hs
    obtain ⟨h, wd, G, M, X, rfl, gd, rfl, rfl, h0, hfm⟩ : ∃ h wd G M X, t = mkT h wd G ∧ Good h wd G ∧ m = mkT h wd M ∧ x = mkT h wd X ∧ (∀ i j, ¬ (i < h ∧ j < wd) → X i j = 0) ∧ fitM h wd G M X = true := by
      rcases fit_cases t m x with ⟨-, e⟩ | ⟨h, wd, G, M, -, -, -, -, e⟩ | ⟨h, wd, G, M, X, h1, h2, h3, h4, h5, e⟩
      · rw [e] at hR; cases hR
      · rw [e] at hR; cases hR
      · exact ⟨h, wd, G, M, X, h1, h2, h3, h4, h5, by rw [← e]; exact hR⟩
    rw [mkT_len, mkT_len, mkT_len] at hi
    simp only [mkT_len] at hs
    rw [mkT_len, mkT_len, mkT_len]
    rw [mkT_len] at ht4 hm5 hx4
    have g1 := gd.h1
    have k1 := gd.w1
    have k4 := gd.w4
    have HI := Lib.hid hi
    have HS := Lib.hid hs
    have HGD := Lib.hid gd
    have H0 := Lib.hid h0
    have HFM := Lib.hid hfm
    clear hi hs hR gd h0 hfm hm5 hx4
    go_wp2_with fail
    refine HI.out.mono ?_
    rintro e w2 ⟨rfl, hb2⟩
    go_wp2_with fail
    refine (HS.out _ (HT1.out.below hb2) (HM1.out.below hb2) (HX1.out.below hb2)).mono ?_
    rintro e w3 ⟨rfl, hb3⟩
    have b13 := hb2.trans (hb3.mono hb2.size)
    have h3 := h1.trans (b13.mono h1.size)
    have HT3 := Lib.hid (HT1.out.below b13)
    have HM3 := Lib.hid (HM1.out.below b13)
    have HX3 := Lib.hid (HX1.out.below b13)
    clear HT1 HM1 HX1 HI HS b13 hb2 hb3 h1

    obtain ⟨q1, q2, q3⟩ := fit_parts HFM.out
    have hXb : ∀ i j, 0 ≤ X i j ∧ X i j ≤ 396 := fun i j => by
      by_cases ho : i < h ∧ j < wd
      · have := q1 i j ho.1 ho.2; omega
      · rw [H0.out i j ho]; omega
    have HXB := Lib.hid hXb
    have Q1 := Lib.hid q1
    have Q2 := Lib.hid q2
    have Q3 := Lib.hid q3
    have hCb : ∀ a, 0 ≤ (sumN h fun i => G i a) ∧ (sumN h fun i => G i a) ≤ 400 := fun a => by
      have q1 := sumN_nonneg (n := h) (f := fun i => G i a) fun i _ => HGD.out.lo i a
      have q2 := sumN_max (n := h) (f := fun i => G i a) (c := 99) fun i _ => HGD.out.hi i a
      omega
    have HCB := Lib.hid hCb
    have hmx : Try.prog.follows .mixedOrders = true := by kernel_rfl
    clear hXb q1 q2 q3 hCb HFM H0
    go_wp2_with fail
    refine (implSums_yes A1 c1 h wd G _ HT3.out HGD.out).mono ?_
    rintro e w4 ⟨A5, c5, B5, d5, rfl, o5, p5, hdis, hb4⟩
    rw [show (rowL h wd G).length = h from mkL_len _ _] at o5 hdis ⊢
    rw [show (colL h wd G).length = wd from mkL_len _ _] at p5 hdis ⊢
    obtain ⟨lo, hlo⟩ : ∃ lo, lo = w3.heap.size := ⟨_, rfl⟩
    rw [← hlo] at o5 p5
    obtain ⟨rb, _, er, -, -⟩ := o5.form (by omega)
    obtain ⟨cb, _, ec, -, -⟩ := p5.form (by omega)
    injection er with er _ er3
    injection ec with ec _ ec3
    subst er ec er3 ec3
    have hrc : cb ≠ rb := fun e => hdis rb rfl (by rw [e]; rfl)
    have HF4 : Hid (FRel w3 lo h wd G X rb cb c5 d5 (cp wd 0 0) w4) := Lib.hid ⟨o5, by simpa [cp, acc, colL] using p5, hb4⟩
    have HLO := Lib.hid hlo
    clear o5 p5 hdis hb4 hlo
    go_wp2_with fail
    go_loopw [11] (fun i wr => ∃ k : Nat, k ≤ h ∧ i = .int .i64 k ∧ Hid (FRel w3 lo h wd G X rb cb c5 d5 (cp wd k 0) wr)) (fun i _ => h - (intOf i).toNat)
    case atStart => exact ⟨0, Nat.zero_le _, rfl, HF4⟩
    case round =>
      clear HF4
      obtain ⟨k, hk, rfl, HF⟩ := hrel
      obtain ⟨wo, rfl⟩ : ∃ wo : World, wo = wr := ⟨_, rfl⟩
      by_cases hlt : k < h
      · obtain ⟨xb, xp, rfl, xr, xq, xc, hgX⟩ := (HX3.out.below HF.out.bel).grid (by omega) (by omega)
        have xr1 := hgX.row k hlt
        obtain ⟨rb1, er1, -, -, rc1, -, -⟩ := own_mk HF.out.rows hlt
        injection er1 with er1
        injection er1 with er1
        subst er1
        simp only [IntV] at rc1
        obtain ⟨s, hs⟩ : ∃ s, sumN wd (G k) = s := ⟨_, rfl⟩
        rw [hs] at rc1
        have hls := hgX.lst k hlt
        have hcall : ∀ n : Nat, Calls Try.prog 33 #[.slice (some ⟨xr k, xq k, none⟩) wd (xc k)] (wo.drewN n) fun e w' => e = .returned (.int .i64 s) ∧ ∃ z, w' = (wo.drewN n).drewN z := fun n => by
          have h9 := sumOf_any _ _ _ (wo.drewN n) (hls.below (below_drewN (Below.refl _ _) n)) (by rw [mkL_len]; omega) (fun x hx => by
            obtain ⟨j, -, rfl⟩ := mkL_mem.1 hx
            have := HXB.out k j; omega)
          rw [mkL_len, sum_mkL, ← Q2.out k hlt, hs] at h9
          exact h9.mono fun e w' ⟨h1, h2⟩ => ⟨h1, 0, h2.symm⟩
        have HC := Lib.hid hcall
        have ss : (s != s) = false := by simp
        have i1 : (k : Int) < (h : Int) := by omega
        clear hcall hls hs hgX
        go_wp2_with fail
        go_quiet ((go_at_call 33; exact Calls.quiet_of (HC.out _)))
        have HF5 : ∀ n, Hid (FRel w3 lo h wd G X rb cb c5 d5 (cp wd k 0) (wo.drewN n)) := fun n => Lib.hid (HF.out.drewN n)
        go_wp2_with fail
        go_loopw [12] (fun i wr => ∃ j : Nat, j ≤ wd ∧ i = .int .i64 j ∧ Hid (FRel w3 lo h wd G X rb cb c5 d5 (cp wd k j) wr)) (fun i _ => wd - (intOf i).toNat)
        case atStart => exact ⟨0, Nat.zero_le _, rfl, HF5 _⟩
        case round =>
          clear HF5 HF xr1 rc1 ss HC
          obtain ⟨j, hj', rfl, HF⟩ := hrel
          obtain ⟨W, rfl⟩ : ∃ W : World, W = wr := ⟨_, rfl⟩
          obtain ⟨tb, tp, rfl, tr, tq, tc, hgT⟩ := (HT3.out.below HF.out.bel).grid (by omega) (by omega)
          have tr1 := hgT.row k hlt
          by_cases hj : j < wd
          · obtain ⟨mb, mp, rfl, mr, mq, mc, hgM⟩ := (HM3.out.below HF.out.bel).grid (by omega) (by omega)
            obtain ⟨xrb, xro, xrc, x1, x2⟩ := tcell (HX3.out.below HF.out.bel) hlt hj
            simp only [IntV] at x2
            obtain ⟨y, hy⟩ : ∃ y, X k j = y := ⟨_, rfl⟩
            have hyb := HXB.out k j
            rw [hy] at x2 hyb
            have y0 := hyb.1
            have y1 := hyb.2
            have hl16 : (cp wd k j).length ≤ 16 := by
              rw [cp_len]
              have : k * wd ≤ 3 * 4 := Nat.mul_le_mul (by omega) k4
              omega
            have hob : ∀ p : Nat × Nat → Bool, 0 ≤ acc X p (cp wd k j) ∧ acc X p (cp wd k j) ≤ 6400 := fun p => by
              have := acc_bound (v := X) (p := p) (M := 396) (by omega) (pre := cp wd k j) (fun q _ => HXB.out q.1 q.2)
              omega
            obtain ⟨v, hv, v0, v1⟩ : ∃ v : Int, (sumN h fun i => G i j) - acc X (fun z => z.2 == j) (cp wd k j) = v ∧ -6400 ≤ v ∧ v ≤ 400 := ⟨_, rfl, by have := HCB.out j; have := hob (fun z => z.2 == j); omega, by have := HCB.out j; have := hob (fun z => z.2 == j); omega⟩
            obtain ⟨cb1, ec1, cl1, cl2, cc1, cf1, cset⟩ := own_mk HF.out.cols hj
            injection ec1 with ec1
            injection ec1 with ec1
            subst ec1
            have cs := cset (v - y)
            rw [← hv, ← hy, sub_col_up, ← cp_step, hv, hy] at cs
            rw [hv] at cc1
            simp only [IntV] at cc1
            have wvy : IntKind.i64.wrap (v - y) = v - y := IntWalk.i64_in _ (by omega)
            have HF2 : Hid (FRel w3 lo h wd G X rb cb c5 d5 (cp wd k (j + 1)) (W.setCell ⟨cb, j, none⟩ (.int .i64 (v - y))).drew) := Lib.hid ⟨by
              refine own_below (own_keep HF.out.rows fun b hb => Below.heap_setCell W _ _ b ?_) (below_drewN (Below.refl _ _) 1)
              intro e
              simp [Value.ownBlock] at hb e
              omega, own_below cs (below_drewN (Below.refl _ _) 1), (HF.out.bel.setCell (p := ⟨cb, j, none⟩) (by rw [← HLO.out]; exact cl1) _).drew⟩
            have i2 : (k : Int) < (h : Int) := by omega
            have j1 : (j : Int) < (wd : Int) := by omega
            have HYY := Lib.hid hy
            have WV := Lib.hid wvy
            clear hy hyb hob hl16 hv cset cs cl1 cl2 wvy hgT hgM
            go_wp2_with fail
            have wvy := WV.out
            refine tail_Q 15 hmx (by kernel_rfl) ?_
            simp only [List.take_succ_cons, List.take_zero, List.drop_succ_cons, List.drop_zero]
            repeat (first | go_big_quiet_skip | (go_big_quiet_want; go_big_quiet_op; go_big_quiet_on))
            refine wpQuiet_nil ?_
            clear wvy
            go_upto_region 18 with (fail)
            obtain ⟨V, hV⟩ : ∃ V : World, V = (W.setCell ⟨cb, j, none⟩ (.int .i64 (v - y))).drew := ⟨_, rfl⟩
            rw [← hV]
            rw [← hV] at HF2
            clear hV x1 x2 cc1 cf1 tr1 HF
            obtain ⟨xrb, xro, xrc, x1, x2⟩ := tcell (HX3.out.below HF2.out.bel) hlt hj
            obtain ⟨trb, tro, trc, t1, t2⟩ := tcell (HT3.out.below HF2.out.bel) hlt hj
            obtain ⟨mrb, mro, mrc, m1, m2⟩ := tcell (HM3.out.below HF2.out.bel) hlt hj
            simp only [IntV] at x2 t2
            simp only [BoolV] at m2
            have hq := Q1.out k j hlt hj
            obtain ⟨g, hg⟩ : ∃ g, G k j = g := ⟨_, rfl⟩
            rw [HYY.out] at x2 hq
            rw [hg] at t2 hq
            cases hm : M k j
            · rw [hm] at m2
              have hyg : (y != g) = false := by simp [hq.2.2 hm]
              clear hq hm hg
              go_wp2_with fail
              go_quiet (fail)
              go_wp2_with fail
              go_roundw
              case rel => exact ⟨j + 1, by omega, by go_num, Lib.hid (HF2.out.drewN _)⟩
              case measure => simp [intOf]; omega
            · rw [hm] at m2
              clear hq hm hg
              go_wp2_with fail
              go_quiet (fail)
              go_wp2_with fail
              go_roundw
              case rel => exact ⟨j + 1, by omega, by go_num, Lib.hid (HF2.out.drewN _)⟩
              case measure => simp [intOf]; omega
          · obtain rfl : j = wd := by omega
            have HF3 : Hid (FRel w3 lo h j G X rb cb c5 d5 (cp j (k + 1) 0) W) := Lib.hid (by rw [← cp_next]; exact HF.out)
            have i2 : (k : Int) < (h : Int) := by omega
            clear hgT
            go_wp2_with fail
            go_roundw
            case rel => exact ⟨k + 1, by omega, by go_num, HF3⟩
            case measure => simp [intOf]; omega
      · obtain rfl : k = h := by omega
        have h5 := h3.trans (HF.out.bel.mono h3.size)
        have ec : (mkL wd fun a => (sumN k fun i => G i a) - acc X (fun z => z.2 == a) (cp wd k 0)) = mkL wd fun _ => 0 := mkL_ext fun a ha => by
          rw [acc_col _ _ _ ha _ _ (Nat.zero_le _), Q3.out a ha]; simp
        have hcl := HF.out.cols
        rw [ec] at hcl
        have hL := Lst.of_own (f := IntV) (xs := mkL wd fun _ => (0 : Int)) (by rw [mkL_len]; exact hcl)
        have hsm := sumOf_any (some ⟨cb, 0, none⟩) d5 (mkL wd fun _ => 0) wo hL (by rw [mkL_len]; omega) (fun x hx => by
          obtain ⟨j, -, rfl⟩ := mkL_mem.1 hx; omega)
        rw [mkL_len, sum_mkL, sumN_zero] at hsm
        have hff := implFit_any A1 A2 A1 c1 c2 c1 (mkT k wd G) (mkT k wd M) (mkT k wd G) wo (HT3.out.below HF.out.bel) (HM3.out.below HF.out.bel) (HT3.out.below HF.out.bel) (by rw [mkT_len]; unfold maxLen; omega) (by rw [mkT_len]; unfold maxLen; omega)
        rw [mkT_len, mkT_len, fitT_mk HGD.out, self_fit M HGD.out] at hff
        have HSM := Lib.hid hsm
        have HFF := Lib.hid hff
        clear ec hcl hL hsm hff
        go_wp2_with fail
        refine HSM.out.mono ?_
        rintro e w' ⟨rfl, rfl⟩
        go_wp2_with fail
        refine HFF.out.mono ?_
        rintro e w6 ⟨rfl, hb6⟩
        have h6 := h5.trans (hb6.mono h5.size)
        go_wp2_with fail
        go_ret
        exact ⟨rfl, h6⟩
end Go.Proofs.Ytncnghmadeghlaa.fnFit
