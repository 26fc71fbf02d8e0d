/- The walk of the law FnTableFoldTurn: for every code it returns true and leaves old memory alone. -/
import Derived.Test.YtncnghmadeghlaaFoldI
import Derived.Test.YtncnghmadeghlaaFoldS
import Derived.Test.YtncnghmadeghlaaDFold
import Derived.Test.YtncnghmadeghlaaFoldL
import Derived.Test.YtncnghmadeghlaaSame
import Derived.Test.YtncnghmadeghlaaSumsA
import Derived.OpenShut
import Derived.Deep.RegionLaw
import Derived.Deep.RegionWith
import Derived.IntWalk
import Derived.ShutString
import Derived.BigQuiet
namespace Go.Proofs.Ytncnghmadeghlaa.fnTableFoldTurn
open Go.RowKit
set_option linter.unusedVariables false

theorem sum_bd {h wd i : Nat} {G : Nat → Nat → Int} (gd : Good h wd G) : 0 ≤ sumN wd (G i) ∧ sumN wd (G i) ≤ 400 := by
  have h1 := sumN_nonneg (n := wd) (f := G i) fun j _ => gd.lo i j
  have h2 := sumN_max (n := wd) (f := G i) (c := 99) fun j _ => gd.hi i j
  have := gd.w4
  omega

set_option maxRecDepth 100000 in
set_option maxHeartbeats 4000000 in
theorem walk (A : Option Addr) (c : Nat) (bs : List Int) (w : World) (hx : Seq ByteV w A bs) (hl : bs.length ≤ maxLen) (hc : bs.length ≤ c) (hcm : c ≤ maxLen) (hw : ∀ n ∈ bs, (Lit.int .u8 n).wf = true) :
    Calls Try.prog 9 #[.slice A bs.length c] w (Yes w) := by
  have hby : ∀ b ∈ bs, 0 ≤ b ∧ b ≤ 255 := fun b hb => bounds_u8 (hw b hb)
  have HB := Lib.hid hby
  clear hw hby
  by_cases hbig : 1048576 < bs.length
  · unfold maxLen at hl
    go_enter Try.func9, Try.ntmps9
    go_wp2
    go_ret
    exact ⟨rfl, Below.refl _ _⟩
  have hb1 : decide (1048576 < (bs.length : Int)) = false := by simp; omega
  go_enter Try.func9, Try.ntmps9
  go_wp2_with fail
  refine (drawTableFold_any A c bs _ hx hl hc hcm HB.out).mono ?_
  rintro e w1 ⟨A1, c1, t, a, b, rfl, hc1, hT, hsh, h1⟩
  clear hx hl hc hcm HB hb1
  have hl : t.length ≤ maxLen := by have := hsh.1; unfold maxLen; omega
  have HT1 := Lib.hid hT
  by_cases hok : foldOk t a b = false
  · have hi := implFold_any A1 c1 t a b w1 hT hl
    have hs := fun w (hT : Tab IntV w A1 t) => specFold_any A1 c1 t a b w hT hl
    have hlen := (fold_lens t a b).1
    obtain ⟨R, hR⟩ : ∃ R, foldT t a b = R := ⟨_, rfl⟩
    rw [hR, hok] at hi
    simp only [hR, hok] at hs
    rw [hR] at hlen
    have HI := Lib.hid hi
    have HS := Lib.hid hs
    have hRm : R.length ≤ maxLen := by unfold maxLen; omega
    have eRR := eqT_same R
    clear hi hs hR hok hT hsh hlen hl
    go_wp2_with fail
    refine HI.out.mono ?_
    rintro e w2 ⟨A2, c2, rfl, -, hR2, hb2⟩
    have h2 := h1.trans (hb2.mono h1.size)
    have HR2 := Lib.hid hR2.tab
    clear hR2
    go_wp2_with fail
    refine (HS.out _ (HT1.out.below hb2)).mono ?_
    rintro e w3 ⟨A3, c3, rfl, -, hR3, hb3⟩
    have h3 := h2.trans (hb3.mono h2.size)
    have HR3 := Lib.hid hR3
    have HR2' := Lib.hid (HR2.out.below hb3)
    clear hR3
    go_wp2_with fail
    refine (sameRows_any A2 A3 c2 c3 R R _ HR2'.out HR3.out hRm).mono ?_
    rintro e w4 ⟨rfl, q4⟩
    have h4 := h3.trans (q4.below.mono h3.size)
    have HR24 := Lib.hid (HR2'.out.below q4.below)
    have HR34 := Lib.hid (HR3.out.below q4.below)
    clear q4
    go_wp2_with fail
    refine (sameRows_any A2 A3 c2 c3 R R _ HR24.out HR34.out hRm).mono ?_
    rintro e w5 ⟨rfl, q5⟩
    have h5 := h4.trans (q5.below.mono h4.size)
    clear q5
    go_wp2_with fail
    go_ret
    exact ⟨rfl, h5⟩
  · have hok : foldOk t a b = true := by simpa using hok
    obtain ⟨h, wd, G, p, q, rfl, gd, rfl, rfl, hpq, hq⟩ : ∃ h wd G, ∃ p q : Nat, t = mkT h wd G ∧ Good h wd G ∧ a = (p : Int) ∧ b = (q : Int) ∧ p < q ∧ q < h := by
      rcases fold_cases t a b with ⟨-, e, -⟩ | h
      · rw [e] at hok; cases hok
      · exact h
    have hv := fold_ok gd hpq hq
    rw [hok] at hv
    obtain ⟨H, gH, eH, hH⟩ := fold_good hv.symm
    have hR : foldT (mkT h wd G) p q = mkT (h - 1) wd H := by rw [foldT, if_pos hok, fold_mk gd hpq hq, eH]
    have g1 := gd.h1
    have g4 := gd.h4
    have k1 := gd.w1
    have k4 := gd.w4
    have hi := implFold_any A1 c1 (mkT h wd G) p q w1 hT hl
    have hs := fun w (hT : Tab IntV w A1 (mkT h wd G)) => specFold_any A1 c1 (mkT h wd G) p q w hT hl
    rw [hR, hok] at hi
    simp only [hR, hok] at hs
    rw [mkT_len] at hi
    simp only [mkT_len] at hs
    have HI := Lib.hid hi
    have HS := Lib.hid hs
    have HGD := Lib.hid gd
    have HGH := Lib.hid gH
    have HH := Lib.hid hH
    have eRR := eqT_same (mkT (h - 1) wd H)
    have hsr := fun (A B : Option Addr) (c d : Nat) (W : World) (hx : Tab IntV W A (mkT (h - 1) wd H)) (hy : Tab IntV W B (mkT (h - 1) wd H)) => sameRows_any A B c d _ _ W hx hy (by rw [mkT_len]; unfold maxLen; omega)
    simp only [mkT_len, eRR] at hsr
    have HSR := Lib.hid hsr
    rw [mkT_len] at hc1 ⊢
    clear hi hs hR hok hT hsh hl hv gd gH eH hH eRR hsr
    go_wp2_with fail
    refine HI.out.mono ?_
    rintro e w2 ⟨A2, c2, rfl, -, hR2, hb2⟩
    rw [mkT_len]
    have h2 := h1.trans (hb2.mono h1.size)
    have HR2 := Lib.hid hR2.tab
    clear hR2
    go_wp2_with fail
    refine (HS.out _ (HT1.out.below hb2)).mono ?_
    rintro e w3 ⟨A3, c3, rfl, -, hR3, hb3⟩
    rw [mkT_len]
    have h3 := h2.trans (hb3.mono h2.size)
    have HR3 := Lib.hid hR3
    have HR2' := Lib.hid (HR2.out.below hb3)
    have hb13 := hb2.trans (hb3.mono hb2.size)
    clear hR3
    go_wp2_with fail
    refine (HSR.out A2 A3 c2 c3 _ HR2'.out HR3.out).mono ?_
    rintro e w4 ⟨rfl, q4⟩
    have h4 := h3.trans (q4.below.mono h3.size)
    have HO4 := Lib.hid (HR2'.out.below q4.below)
    have HT4 := Lib.hid (HT1.out.below (hb13.trans (q4.below.mono hb13.size)))
    clear q4 hb2 hb3 hb13 HR2 HR3 HR2' HSR HI HS HT1 h1 h2 h3
    go_wp2_with fail
    refine (implSums_yes A1 c1 h wd G _ HT4.out HGD.out).mono ?_
    rintro e w5 ⟨A5, c5, B5, d5, rfl, o5, p5, -, hb5⟩
    have h5 := h4.trans (hb5.mono h4.size)
    have HX5 := Lib.hid (Lst.of_own o5)
    have HY5 := Lib.hid (Lst.of_own p5)
    have HO5 := Lib.hid (HO4.out.below hb5)
    have HT5 := Lib.hid (HT4.out.below hb5)
    rw [show (rowL h wd G).length = h from mkL_len _ _, show (colL h wd G).length = wd from mkL_len _ _]
    clear o5 p5 HO4 HT4 hb5 h4

    go_wp2_with fail
    refine (implSums_yes A2 c2 (h - 1) wd H _ HO5.out HGH.out).mono ?_
    rintro e w6 ⟨A6, c6, B6, d6, rfl, o6, p6, -, hb6⟩
    have h6 := h5.trans (hb6.mono h5.size)
    have HX6 := Lib.hid (Lst.of_own o6)
    have HY6 := Lib.hid (Lst.of_own p6)
    have HX5' := Lib.hid (HX5.out.below hb6)
    have HY5' := Lib.hid (HY5.out.below hb6)
    have HO6 := Lib.hid (HO5.out.below hb6)
    have HT6 := Lib.hid (HT5.out.below hb6)
    rw [show (rowL (h - 1) wd H).length = h - 1 from mkL_len _ _, show (colL (h - 1) wd H).length = wd from mkL_len _ _]
    clear o6 p6 HX5 HY5 HO5 HT5 hb6 h5

    have e1 : (((h - 1 : Nat) : Int) != (h : Int) - 1) = false := by simp; omega
    go_wp2_with fail
    go_loopw [16, 17] (fun s i wr => ∃ k : Nat, k ≤ h ∧ i = .int .i64 k ∧ s = .int .i64 (atN q k : Nat) ∧ Hid (Qu w6 wr)) (fun _ i _ => h - (intOf i).toNat)
    case atStart => exact ⟨0, Nat.zero_le _, rfl, by simp [atN], Lib.hid (Qu.refl _)⟩
    case round =>
      obtain ⟨k, hk, rfl, rfl, HQ⟩ := hrel
      obtain ⟨W, rfl⟩ : ∃ W : World, W = wr := ⟨_, rfl⟩
      by_cases hlt : k < h
      · by_cases hkq : k = q
        · subst hkq
          rw [atN_same]
          have f1 : ((k : Int) == (k : Int)) = true := by simp
          go_wp2_with fail
          go_roundw
          case rel => exact ⟨k + 1, by omega, by go_num, by rw [atN_over], HQ⟩
          case measure => simp [intOf]; omega
        · have f1 : ((k : Int) == (q : Int)) = false := beq_eq_false_iff_ne.2 (by omega)
          have hat := atN_lt hkq hq hlt
          have hsum := fold_sum HH.out hpq hq hat
          rw [skp_at hkq] at hsum
          obtain ⟨m, hm⟩ : ∃ m, atN q k = m := ⟨_, rfl⟩
          rw [hm] at hat hsum ⊢
          have hN := Lib.hid (show atN q (k + 1) = m + 1 by rw [atN_next hkq, hm])
          have hL6 := HX6.out.1.qu HQ.out
          have hL5 := HX5'.out.1.qu HQ.out
          obtain ⟨b, o, x, e2, hb, hx, cx⟩ := hL6.at_ (k := m) (by rw [rowL, mkL_len]; exact hat)
          obtain ⟨b', o', y, e3, hb', hy, cy⟩ := hL5.at_ (k := k) (by rw [rowL, mkL_len]; exact hlt)
          obtain ⟨b'', o'', z, e4, hb'', hz, cz⟩ := hL5.at_ (k := q) (by rw [rowL, mkL_len]; exact hq)
          obtain ⟨b3, o3, u, e5, hb3, hu, cu⟩ := hL5.at_ (k := p) (by rw [rowL, mkL_len]; omega)
          rw [rowL, mkL_get _ hat] at hx
          rw [rowL, mkL_get _ hlt] at hy
          rw [rowL, mkL_get _ hq] at hz
          rw [rowL, mkL_get _ (by omega)] at hu
          injection hx with hx
          injection hy with hy
          injection hz with hz
          injection hu with hu
          obtain ⟨rfl, rfl⟩ : b' = b'' ∧ o' = o'' := by rw [e3] at e4; injection e4 with e4; injection e4 with e41 e42; exact ⟨e41, e42⟩
          obtain ⟨rfl, rfl⟩ : b' = b3 ∧ o' = o3 := by rw [e3] at e5; injection e5 with e5; injection e5 with e51 e52; exact ⟨e51, e52⟩
          rw [hx, hy, hz] at hsum
          have z0 := (sum_bd HGD.out (i := q)).1
          have z1 := (sum_bd HGD.out (i := q)).2
          have u0 := (sum_bd HGD.out (i := p)).1
          have u1 := (sum_bd HGD.out (i := p)).2
          rw [hz] at z0 z1
          rw [hu] at u0 u1
          have wuz : IntKind.i64.wrap (u + z) = u + z := IntWalk.i64_in _ (by omega)
          simp only [IntV] at cx cy cz cu
          have i1 : (k : Int) < (h : Int) := by omega
          have i2 : (m : Int) < ((h - 1 : Nat) : Int) := by omega
          have i3 : (q : Int) < (h : Int) := by omega
          have i4 : (p : Int) < (h : Int) := by omega
          subst e2
          subst e3
          have hcase : (((k : Int) == (p : Int)) = true ∧ ((k : Int) != (p : Int)) = false ∧ (x != u + z) = false) ∨ (((k : Int) == (p : Int)) = false ∧ ((k : Int) != (p : Int)) = true ∧ (x != y) = false) := by
            by_cases e : k = p
            · left
              refine ⟨by simp; omega, by simp; omega, ?_⟩
              rw [if_pos (show m = p by rw [← hm, e, atN_low hpq])] at hsum
              have : y = u := by rw [← hy, ← hu, e]
              simp; omega
            · right
              rw [if_neg (show ¬ m = p by rw [← hm]; exact atN_ne hpq hkq e)] at hsum
              exact ⟨beq_eq_false_iff_ne.2 (by omega), by simp; omega, by simp; omega⟩
          clear hm hL5 hL6 hkq hsum hx hy hz hu e4 e5
          rcases hcase with ⟨f2, f3, f4⟩ | ⟨f2, f3, f4⟩
          all_goals
            go_wp2_with fail
            go_quiet (fail)
            go_wp2_with fail
            go_roundw
            case rel => exact ⟨k + 1, by omega, by go_num, by rw [hN.out]; go_num, Lib.hid (HQ.out.drewN _)⟩
            case measure => simp [intOf]; omega
      · obtain rfl : k = h := by omega
        have h7 := h6.trans (HQ.out.below.mono h6.size)
        go_wp2_with fail
        go_ret
        exact ⟨rfl, h7⟩
end Go.Proofs.Ytncnghmadeghlaa.fnTableFoldTurn
