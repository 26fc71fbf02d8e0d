/- The walk of the law FnTableFold: for every code it returns true and leaves old memory alone. -/
import Derived.Test.YtncnghmadeghlaaFoldI
import Derived.Test.YtncnghmadeghlaaFoldS
import Derived.Test.YtncnghmadeghlaaDFold
import Derived.Test.YtncnghmadeghlaaFoldL
import Derived.Test.YtncnghmadeghlaaSame
import Derived.Test.YtncnghmadeghlaaSumsA
import Derived.OpenShut
import Derived.Deep.RegionLaw
import Derived.Deep.RegionWith
import Derived.IntWalk
import Derived.ShutString
import Derived.BigQuiet
namespace Go.Proofs.Ytncnghmadeghlaa.fnTableFold
open Go.RowKit
set_option linter.unusedVariables false


set_option maxRecDepth 100000 in
set_option maxHeartbeats 4000000 in
theorem walk (A : Option Addr) (c : Nat) (bs : List Int) (w : World) (hx : Seq ByteV w A bs) (hl : bs.length ≤ maxLen) (hc : bs.length ≤ c) (hcm : c ≤ maxLen) (hw : ∀ n ∈ bs, (Lit.int .u8 n).wf = true) :
    Calls Try.prog 11 #[.slice A bs.length c] w (Yes w) := by
  have hby : ∀ b ∈ bs, 0 ≤ b ∧ b ≤ 255 := fun b hb => bounds_u8 (hw b hb)
  have HB := Lib.hid hby
  clear hw hby
  by_cases hbig : 1048576 < bs.length
  · unfold maxLen at hl
    go_enter Try.func11, Try.ntmps11
    go_wp2
    go_ret
    exact ⟨rfl, Below.refl _ _⟩
  have hb1 : decide (1048576 < (bs.length : Int)) = false := by simp; omega
  go_enter Try.func11, Try.ntmps11
  go_wp2_with fail
  refine (drawTableFold_any A c bs _ hx hl hc hcm HB.out).mono ?_
  rintro e w1 ⟨A1, c1, t, a, b, rfl, hc1, hT, hsh, h1⟩
  clear hx hl hc hcm HB hb1
  have hl : t.length ≤ maxLen := by have := hsh.1; unfold maxLen; omega
  have HT1 := Lib.hid hT
  by_cases hok : foldOk t a b = false
  · have hi := implFold_any A1 c1 t a b w1 hT hl
    have hs := fun w (hT : Tab IntV w A1 t) => specFold_any A1 c1 t a b w hT hl
    have hlen := (fold_lens t a b).1
    obtain ⟨R, hR⟩ : ∃ R, foldT t a b = R := ⟨_, rfl⟩
    rw [hR, hok] at hi
    simp only [hR, hok] at hs
    rw [hR] at hlen
    have HI := Lib.hid hi
    have HS := Lib.hid hs
    have hRm : R.length ≤ maxLen := by unfold maxLen; omega
    have eRR := eqT_same R
    clear hi hs hR hok hT hsh hlen hl
    go_wp2_with fail
    refine HI.out.mono ?_
    rintro e w2 ⟨A2, c2, rfl, -, hR2, hb2⟩
    have h2 := h1.trans (hb2.mono h1.size)
    have HR2 := Lib.hid hR2.tab
    clear hR2
    go_wp2_with fail
    refine (HS.out _ (HT1.out.below hb2)).mono ?_
    rintro e w3 ⟨A3, c3, rfl, -, hR3, hb3⟩
    have h3 := h2.trans (hb3.mono h2.size)
    have HR3 := Lib.hid hR3
    have HR2' := Lib.hid (HR2.out.below hb3)
    clear hR3
    go_wp2_with fail
    refine (sameRows_any A2 A3 c2 c3 R R _ HR2'.out HR3.out hRm).mono ?_
    rintro e w4 ⟨rfl, q4⟩
    have h4 := h3.trans (q4.below.mono h3.size)
    have HR24 := Lib.hid (HR2'.out.below q4.below)
    have HR34 := Lib.hid (HR3.out.below q4.below)
    clear q4
    go_wp2_with fail
    refine (sameRows_any A2 A3 c2 c3 R R _ HR24.out HR34.out hRm).mono ?_
    rintro e w5 ⟨rfl, q5⟩
    have h5 := h4.trans (q5.below.mono h4.size)
    clear q5
    go_wp2_with fail
    go_ret
    exact ⟨rfl, h5⟩
  · have hok : foldOk t a b = true := by simpa using hok
    obtain ⟨h, wd, G, p, q, rfl, gd, rfl, rfl, hpq, hq⟩ : ∃ h wd G, ∃ p q : Nat, t = mkT h wd G ∧ Good h wd G ∧ a = (p : Int) ∧ b = (q : Int) ∧ p < q ∧ q < h := by
      rcases fold_cases t a b with ⟨-, e, -⟩ | h
      · rw [e] at hok; cases hok
      · exact h
    have hv := fold_ok gd hpq hq
    rw [hok] at hv
    obtain ⟨H, gH, eH, hH⟩ := fold_good hv.symm
    have hR : foldT (mkT h wd G) p q = mkT (h - 1) wd H := by rw [foldT, if_pos hok, fold_mk gd hpq hq, eH]
    have g1 := gd.h1
    have g4 := gd.h4
    have k1 := gd.w1
    have k4 := gd.w4
    have hi := implFold_any A1 c1 (mkT h wd G) p q w1 hT hl
    have hs := fun w (hT : Tab IntV w A1 (mkT h wd G)) => specFold_any A1 c1 (mkT h wd G) p q w hT hl
    rw [hR, hok] at hi
    simp only [hR, hok] at hs
    rw [mkT_len] at hi
    simp only [mkT_len] at hs
    have HI := Lib.hid hi
    have HS := Lib.hid hs
    have HGD := Lib.hid gd
    have HGH := Lib.hid gH
    have HH := Lib.hid hH
    have eRR := eqT_same (mkT (h - 1) wd H)
    have hsr := fun (A B : Option Addr) (c d : Nat) (W : World) (hx : Tab IntV W A (mkT (h - 1) wd H)) (hy : Tab IntV W B (mkT (h - 1) wd H)) => sameRows_any A B c d _ _ W hx hy (by rw [mkT_len]; unfold maxLen; omega)
    simp only [mkT_len, eRR] at hsr
    have HSR := Lib.hid hsr
    rw [mkT_len] at hc1 ⊢
    clear hi hs hR hok hT hsh hl hv gd gH eH hH eRR hsr
    go_wp2_with fail
    refine HI.out.mono ?_
    rintro e w2 ⟨A2, c2, rfl, -, hR2, hb2⟩
    rw [mkT_len]
    have h2 := h1.trans (hb2.mono h1.size)
    have HR2 := Lib.hid hR2.tab
    clear hR2
    go_wp2_with fail
    refine (HS.out _ (HT1.out.below hb2)).mono ?_
    rintro e w3 ⟨A3, c3, rfl, -, hR3, hb3⟩
    rw [mkT_len]
    have h3 := h2.trans (hb3.mono h2.size)
    have HR3 := Lib.hid hR3
    have HR2' := Lib.hid (HR2.out.below hb3)
    have hb13 := hb2.trans (hb3.mono hb2.size)
    clear hR3
    go_wp2_with fail
    refine (HSR.out A2 A3 c2 c3 _ HR2'.out HR3.out).mono ?_
    rintro e w4 ⟨rfl, q4⟩
    have h4 := h3.trans (q4.below.mono h3.size)
    have HO4 := Lib.hid (HR2'.out.below q4.below)
    have HT4 := Lib.hid (HT1.out.below (hb13.trans (q4.below.mono hb13.size)))
    clear q4 hb2 hb3 hb13 HR2 HR3 HR2' HSR HI HS HT1 h1 h2 h3
    go_wp2_with fail
    refine (implSums_yes A1 c1 h wd G _ HT4.out HGD.out).mono ?_
    rintro e w5 ⟨A5, c5, B5, d5, rfl, o5, p5, -, hb5⟩
    have h5 := h4.trans (hb5.mono h4.size)
    have HX5 := Lib.hid (Lst.of_own o5)
    have HY5 := Lib.hid (Lst.of_own p5)
    have HO5 := Lib.hid (HO4.out.below hb5)
    have HT5 := Lib.hid (HT4.out.below hb5)
    rw [show (rowL h wd G).length = h from mkL_len _ _, show (colL h wd G).length = wd from mkL_len _ _]
    clear o5 p5 HO4 HT4 hb5 h4

    go_wp2_with fail
    refine (implSums_yes A2 c2 (h - 1) wd H _ HO5.out HGH.out).mono ?_
    rintro e w6 ⟨A6, c6, B6, d6, rfl, o6, p6, -, hb6⟩
    have h6 := h5.trans (hb6.mono h5.size)
    have HX6 := Lib.hid (Lst.of_own o6)
    have HY6 := Lib.hid (Lst.of_own p6)
    have HX5' := Lib.hid (HX5.out.below hb6)
    have HY5' := Lib.hid (HY5.out.below hb6)
    have HO6 := Lib.hid (HO5.out.below hb6)
    have HT6 := Lib.hid (HT5.out.below hb6)
    rw [show (rowL (h - 1) wd H).length = h - 1 from mkL_len _ _, show (colL (h - 1) wd H).length = wd from mkL_len _ _]
    clear o6 p6 HX5 HY5 HO5 HT5 hb6 h5

    go_wp2_with fail
    go_loopw [16, 17] (fun s i wr => ∃ k : Nat, k ≤ h ∧ i = .int .i64 k ∧ s = .int .i64 (atN q k : Nat) ∧ Hid (Qu w6 wr)) (fun _ i _ => h - (intOf i).toNat)
    case atStart => exact ⟨0, Nat.zero_le _, rfl, by simp [atN], Lib.hid (Qu.refl _)⟩
    case round =>
      obtain ⟨k, hk, rfl, rfl, HQ⟩ := hrel
      obtain ⟨W, rfl⟩ : ∃ W : World, W = wr := ⟨_, rfl⟩
      by_cases hlt : k < h
      · by_cases hkq : k = q
        · subst hkq
          rw [atN_same]
          have f1 : ((k : Int) == (k : Int)) = true := by simp
          go_wp2_with fail
          go_roundw
          case rel => exact ⟨k + 1, by omega, by go_num, by rw [atN_over], HQ⟩
          case measure => simp [intOf]; omega
        · have f1 : ((k : Int) == (q : Int)) = false := beq_eq_false_iff_ne.2 (by omega)
          have hat := atN_lt hkq hq hlt
          obtain ⟨m, hm⟩ : ∃ m, atN q k = m := ⟨_, rfl⟩
          rw [hm] at hat ⊢
          have HM := Lib.hid hm
          obtain ⟨b, o, Ar, cr, e1, hb, c1', hL⟩ := (HO6.out.below HQ.out.below).mkrow hat
          obtain ⟨b2, o2, Ar2, cr2, e2, hb2, c2', hL2⟩ := (HT6.out.below HQ.out.below).mkrow hlt
          subst e1
          subst e2
          have i1 : (k : Int) < (h : Int) := by omega
          have i2 : (m : Int) < ((h - 1 : Nat) : Int) := by omega
          have hN := Lib.hid (show atN q (k + 1) = m + 1 by rw [atN_next hkq, hm])
          by_cases hkp : k = p
          · have f2 : ((k : Int) != (p : Int)) = false := by simp; omega
            clear hm hL hL2 hkq
            go_wp2_with fail
            go_quiet (fail)
            go_wp2_with fail
            go_roundw
            case rel => exact ⟨k + 1, by omega, by go_num, by rw [hN.out]; go_num, Lib.hid (HQ.out.drewN _)⟩
            case measure => simp [intOf]; omega
          · have f2 : ((k : Int) != (p : Int)) = true := by simp; omega
            have hrow := fold_row HH.out hpq hq hlt hkq hkp
            rw [hm] at hrow
            rw [hrow] at hL
            have he : eqInts (mkL wd (G k)) (mkL wd (G k)) = true := by simp [eqInts]
            have HL := Lib.hid hL
            have HL2 := Lib.hid hL2
            have hcall : ∀ n : Nat, Calls Try.prog 35 #[.slice Ar wd cr, .slice Ar2 wd cr2] (W.drewN n) fun e w' => e = .returned (.bool true) ∧ ∃ z, w' = (W.drewN n).drewN z := fun n => by
              have h9 := sameInts_any Ar Ar2 cr cr2 (mkL wd (G k)) (mkL wd (G k)) (W.drewN n) (HL.out.1.drewN n) (HL2.out.1.drewN n) (by rw [mkL_len]; unfold maxLen; omega)
              rw [mkL_len, he] at h9
              exact h9.mono fun e w' ⟨h1, z, h2⟩ => ⟨h1, z, h2⟩
            have HC := Lib.hid hcall
            clear hm hL hL2 hkq hrow he hcall hkp
            go_wp2_with fail
            go_quiet ((go_at_call 35; exact Calls.quiet_of (HC.out _)))
            go_wp2_with fail
            go_roundw
            case rel => exact ⟨k + 1, by omega, by go_num, by rw [hN.out]; go_num, Lib.hid (HQ.out.drewN _)⟩
            case measure => simp [intOf]; omega
      · obtain rfl : k = h := by omega
        have hb6 := HQ.out.below
        have h7 := h6.trans (hb6.mono h6.size)
        have hcols := fold_cols HH.out hpq hq
        have htot := fold_tot HH.out hpq hq
        have he : eqInts (colL k wd G) (colL (k - 1) wd H) = true := by rw [hcols]; simp [eqInts]
        have hsi := sameInts_any B5 B6 d5 d6 _ _ W ((HY5'.out.below hb6).1) ((HY6.out.below hb6).1) (by rw [colL, mkL_len]; unfold maxLen; omega)
        rw [he, show (colL k wd G).length = wd from mkL_len _ _, show (colL (k - 1) wd H).length = wd from mkL_len _ _] at hsi
        have hs1 : (((k - 1 : Nat) : Int) == (k : Int) - 1) = true := beq_iff_eq.2 (by omega)
        have ht1 := fun W (hW : Tab IntV W A2 (mkT (k - 1) wd H)) => implTotal_yes A2 c2 (k - 1) wd H W hW HGH.out
        have ht2 := fun W (hW : Tab IntV W A1 (mkT k wd G)) => implTotal_yes A1 c1 k wd G W hW HGD.out
        simp only [htot] at ht1
        obtain ⟨z, hz⟩ : ∃ z, tot k wd G = z := ⟨_, rfl⟩
        simp only [hz] at ht1 ht2
        have zz : (z == z) = true := by simp
        have HSI := Lib.hid hsi
        have HT1 := Lib.hid ht1
        have HT2 := Lib.hid ht2
        have HO7 := Lib.hid (HO6.out.below hb6)
        have HT7 := Lib.hid (HT6.out.below hb6)
        clear hsi ht1 ht2 hcols htot he hz hb6 HQ
        go_wp2_with fail
        refine HSI.out.mono ?_
        rintro e w7 ⟨rfl, q7⟩
        have h8 := h7.trans (q7.below.mono h7.size)
        have HO8 := Lib.hid (HO7.out.below q7.below)
        have HT8 := Lib.hid (HT7.out.below q7.below)
        clear q7
        go_wp2_with fail
        refine (HT1.out _ HO8.out).mono ?_
        rintro e w8 ⟨rfl, hb8⟩
        have h9 := h8.trans (hb8.mono h8.size)
        go_wp2_with fail
        refine (HT2.out _ (HT8.out.below hb8)).mono ?_
        rintro e w9 ⟨rfl, hb9⟩
        have h10 := h9.trans (hb9.mono h9.size)
        go_wp2_with fail
        go_ret
        exact ⟨rfl, h10⟩
end Go.Proofs.Ytncnghmadeghlaa.fnTableFold
