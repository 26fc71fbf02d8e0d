/- The walk of the law FnTableFoldAll: for every code it returns true and leaves old memory alone. -/
import Derived.Test.YtncnghmadeghlaaFoldI
import Derived.Test.YtncnghmadeghlaaFoldS
import Derived.Test.YtncnghmadeghlaaDFold
import Derived.Test.YtncnghmadeghlaaFoldL
import Derived.Test.YtncnghmadeghlaaSame
import Derived.Test.YtncnghmadeghlaaSumsA
import Derived.Test.YtncnghmadeghlaaRowsV
import Derived.OpenShut
import Derived.Deep.RegionLaw
import Derived.Deep.RegionWith
import Derived.IntWalk
import Derived.ShutString
import Derived.BigQuiet
namespace Go.Proofs.Ytncnghmadeghlaa.fnTableFoldAll
open Go.RowKit
set_option linter.unusedVariables false

theorem all_one {wd : Nat} {G H : Nat → Nat → Int} (hH : ∀ i j, i < 2 - 1 → j < wd → H i j = fdF G 0 1 i j) : eqT (mkT (2 - 1) wd H) [colL 2 wd G] = true := by
  have e : mkT (2 - 1) wd H = [colL 2 wd G] := by
    show [mkL wd (H 0)] = _
    congr 1
    exact mkL_ext fun j hj => by
      rw [hH 0 j (by omega) hj, fdF, if_pos rfl]
      simp [sumN]
  rw [e]; exact eqT_same _

set_option maxRecDepth 100000 in
set_option maxHeartbeats 4000000 in
theorem walk (A : Option Addr) (c : Nat) (bs : List Int) (w : World) (hx : Seq ByteV w A bs) (hl : bs.length ≤ maxLen) (hc : bs.length ≤ c) (hcm : c ≤ maxLen) (hw : ∀ n ∈ bs, (Lit.int .u8 n).wf = true) :
    Calls Try.prog 8 #[.slice A bs.length c] w (Yes w) := by
  have hby : ∀ b ∈ bs, 0 ≤ b ∧ b ≤ 255 := fun b hb => bounds_u8 (hw b hb)
  have HB := Lib.hid hby
  clear hw hby
  by_cases hbig : 1048576 < bs.length
  · unfold maxLen at hl
    go_enter Try.func8, Try.ntmps8
    go_wp2
    go_ret
    exact ⟨rfl, Below.refl _ _⟩
  have hb1 : decide (1048576 < (bs.length : Int)) = false := by simp; omega
  go_enter Try.func8, Try.ntmps8
  go_wp2_with fail
  refine (drawTableFold_any A c bs _ hx hl hc hcm HB.out).mono ?_
  rintro e w1 ⟨A1, c1, t, a, b, rfl, hc1, hT, hsh, h1⟩
  clear hx hl hc hcm HB hb1
  have hl : t.length ≤ maxLen := by have := hsh.1; unfold maxLen; omega
  have HT1 := Lib.hid hT
  by_cases hok : foldOk t a b = false
  · have hi := implFold_any A1 c1 t a b w1 hT hl
    have hs := fun w (hT : Tab IntV w A1 t) => specFold_any A1 c1 t a b w hT hl
    have hlen := (fold_lens t a b).1
    obtain ⟨R, hR⟩ : ∃ R, foldT t a b = R := ⟨_, rfl⟩
    rw [hR, hok] at hi
    simp only [hR, hok] at hs
    rw [hR] at hlen
    have HI := Lib.hid hi
    have HS := Lib.hid hs
    have hRm : R.length ≤ maxLen := by unfold maxLen; omega
    have eRR := eqT_same R
    clear hi hs hR hok hT hsh hlen hl
    go_wp2_with fail
    refine HI.out.mono ?_
    rintro e w2 ⟨A2, c2, rfl, -, hR2, hb2⟩
    have h2 := h1.trans (hb2.mono h1.size)
    have HR2 := Lib.hid hR2.tab
    clear hR2
    go_wp2_with fail
    refine (HS.out _ (HT1.out.below hb2)).mono ?_
    rintro e w3 ⟨A3, c3, rfl, -, hR3, hb3⟩
    have h3 := h2.trans (hb3.mono h2.size)
    have HR3 := Lib.hid hR3
    have HR2' := Lib.hid (HR2.out.below hb3)
    clear hR3
    go_wp2_with fail
    refine (sameRows_any A2 A3 c2 c3 R R _ HR2'.out HR3.out hRm).mono ?_
    rintro e w4 ⟨rfl, q4⟩
    have h4 := h3.trans (q4.below.mono h3.size)
    have HR24 := Lib.hid (HR2'.out.below q4.below)
    have HR34 := Lib.hid (HR3.out.below q4.below)
    clear q4
    go_wp2_with fail
    refine (sameRows_any A2 A3 c2 c3 R R _ HR24.out HR34.out hRm).mono ?_
    rintro e w5 ⟨rfl, q5⟩
    have h5 := h4.trans (q5.below.mono h4.size)
    clear q5
    go_wp2_with fail
    go_ret
    exact ⟨rfl, h5⟩
  · have hok : foldOk t a b = true := by simpa using hok
    obtain ⟨h, wd, G, p, q, rfl, gd, rfl, rfl, hpq, hq⟩ : ∃ h wd G, ∃ p q : Nat, t = mkT h wd G ∧ Good h wd G ∧ a = (p : Int) ∧ b = (q : Int) ∧ p < q ∧ q < h := by
      rcases fold_cases t a b with ⟨-, e, -⟩ | h
      · rw [e] at hok; cases hok
      · exact h
    have hv := fold_ok gd hpq hq
    rw [hok] at hv
    obtain ⟨H, gH, eH, hH⟩ := fold_good hv.symm
    have hR : foldT (mkT h wd G) p q = mkT (h - 1) wd H := by rw [foldT, if_pos hok, fold_mk gd hpq hq, eH]
    have g1 := gd.h1
    have g4 := gd.h4
    have k1 := gd.w1
    have k4 := gd.w4
    have hi := implFold_any A1 c1 (mkT h wd G) p q w1 hT hl
    have hs := fun w (hT : Tab IntV w A1 (mkT h wd G)) => specFold_any A1 c1 (mkT h wd G) p q w hT hl
    rw [hR, hok] at hi
    simp only [hR, hok] at hs
    rw [mkT_len] at hi
    simp only [mkT_len] at hs
    have HI := Lib.hid hi
    have HS := Lib.hid hs
    have HGD := Lib.hid gd
    have HGH := Lib.hid gH
    have HH := Lib.hid hH
    have eRR := eqT_same (mkT (h - 1) wd H)
    have hsr := fun (A B : Option Addr) (c d : Nat) (W : World) (hx : Tab IntV W A (mkT (h - 1) wd H)) (hy : Tab IntV W B (mkT (h - 1) wd H)) => sameRows_any A B c d _ _ W hx hy (by rw [mkT_len]; unfold maxLen; omega)
    simp only [mkT_len, eRR] at hsr
    have HSR := Lib.hid hsr
    rw [mkT_len] at hc1 ⊢
    clear hi hs hR hok hT hsh hl hv gd gH eH hH eRR hsr
    go_wp2_with fail
    refine HI.out.mono ?_
    rintro e w2 ⟨A2, c2, rfl, -, hR2, hb2⟩
    rw [mkT_len]
    have h2 := h1.trans (hb2.mono h1.size)
    have HR2 := Lib.hid hR2.tab
    clear hR2
    go_wp2_with fail
    refine (HS.out _ (HT1.out.below hb2)).mono ?_
    rintro e w3 ⟨A3, c3, rfl, -, hR3, hb3⟩
    rw [mkT_len]
    have h3 := h2.trans (hb3.mono h2.size)
    have HR3 := Lib.hid hR3
    have HR2' := Lib.hid (HR2.out.below hb3)
    have hb13 := hb2.trans (hb3.mono hb2.size)
    clear hR3
    go_wp2_with fail
    refine (HSR.out A2 A3 c2 c3 _ HR2'.out HR3.out).mono ?_
    rintro e w4 ⟨rfl, q4⟩
    have h4 := h3.trans (q4.below.mono h3.size)
    have HO4 := Lib.hid (HR2'.out.below q4.below)
    have HT4 := Lib.hid (HT1.out.below (hb13.trans (q4.below.mono hb13.size)))
    clear q4 hb2 hb3 hb13 HR2 HR3 HR2' HSR HI HS HT1 h1 h2 h3
    go_wp2_with fail
    refine (implSums_yes A1 c1 h wd G _ HT4.out HGD.out).mono ?_
    rintro e w5 ⟨A5, c5, B5, d5, rfl, o5, p5, -, hb5⟩
    have h5 := h4.trans (hb5.mono h4.size)
    have HX5 := Lib.hid (Lst.of_own o5)
    have HY5 := Lib.hid (Lst.of_own p5)
    have HO5 := Lib.hid (HO4.out.below hb5)
    have HT5 := Lib.hid (HT4.out.below hb5)
    rw [show (rowL h wd G).length = h from mkL_len _ _, show (colL h wd G).length = wd from mkL_len _ _]
    clear o5 p5 HO4 HT4 hb5 h4

    have hcap := HY5.out.2.1
    have hcm := HY5.out.2.2.1
    by_cases h2 : 2 < h
    · have i1 : (2 : Int) < (h : Int) := by omega
      have i2 : (1 : Int) ≤ ((h - 1 : Nat) : Int) := by omega
      go_wp2_with fail
      go_ret
      exact ⟨rfl, h5⟩
    · obtain rfl : h = 2 := by omega
      obtain rfl : p = 0 := by omega
      obtain rfl : q = 1 := by omega
      have hsr := fun (A B : Option Addr) (c d : Nat) (W : World) (hx : Tab IntV W A (mkT (2 - 1) wd H)) (hy : Tab IntV W B [colL 2 wd G]) => sameRows_any A B c d _ _ W hx hy (by rw [mkT_len]; unfold maxLen; omega)
      simp only [mkT_len, all_one HH.out, List.length_singleton] at hsr
      have HSR := Lib.hid hsr
      have hbl : Below w5.heap.size w5 (w5.alloc (.cells #[.slice B5 wd d5] 42)) := (Below.refl _ _).alloc (Nat.le_refl _) _
      have hlit : Tab IntV (w5.alloc (.cells #[.slice B5 wd d5] 42)) (some ⟨w5.heap.size, 0, none⟩) [colL 2 wd G] :=
        Tab.of_rows (RowsAre.one (u := ⟨B5, wd, d5⟩) (by rw [colL, mkL_len]) (HY5.out.below hbl)) (Seq.lit (f := RowV) w5 42 #[.slice B5 wd d5] ([⟨B5, wd, d5⟩] : List RowW) rfl)
      have HLIT := Lib.hid hlit
      have HOL := Lib.hid (HO5.out.below hbl)
      clear hsr hlit
      go_wp2_with fail
      refine (HSR.out _ _ c2 1 _ HOL.out HLIT.out).mono ?_
      rintro e w6 ⟨rfl, q6⟩
      have h6 := h5.trans ((hbl.trans (q6.below.mono hbl.size)).mono h5.size)
      clear q6
      go_wp2_with fail
      go_ret
      exact ⟨rfl, h6⟩
end Go.Proofs.Ytncnghmadeghlaa.fnTableFoldAll
