/- The walk of the law FnTableOfSums: for every code it returns true and leaves old memory alone. -/
import Derived.Test.YtncnghmadeghlaaTofI
import Derived.Test.YtncnghmadeghlaaTofS
import Derived.Test.YtncnghmadeghlaaTofL
import Derived.Test.YtncnghmadeghlaaDTof
import Derived.Test.YtncnghmadeghlaaSame
import Derived.Test.YtncnghmadeghlaaTotalI
import Derived.OpenShut
import Derived.Deep.RegionLaw
import Derived.Deep.RegionWith
import Derived.IntWalk
import Derived.ShutString
import Derived.BigQuiet
namespace Go.Proofs.Ytncnghmadeghlaa.fnTableOfSums
open Go.RowKit
set_option linter.unusedVariables false


set_option maxRecDepth 100000 in
set_option maxHeartbeats 4000000 in
theorem walk (A : Option Addr) (c : Nat) (bs : List Int) (w : World) (hx : Seq ByteV w A bs) (hl : bs.length ≤ maxLen) (hc : bs.length ≤ c) (hcm : c ≤ maxLen) (hw : ∀ n ∈ bs, (Lit.int .u8 n).wf = true) :
    Calls Try.prog 6 #[.slice A bs.length c] w (Yes w) := by
  have hby : ∀ b ∈ bs, 0 ≤ b ∧ b ≤ 255 := fun b hb => bounds_u8 (hw b hb)
  have HB := Lib.hid hby
  clear hw hby
  by_cases hbig : 1048576 < bs.length
  · unfold maxLen at hl
    go_enter Try.func6, Try.ntmps6
    go_wp2
    go_ret
    exact ⟨rfl, Below.refl _ _⟩
  have hb1 : decide (1048576 < (bs.length : Int)) = false := by simp; omega
  go_enter Try.func6, Try.ntmps6
  go_wp2_with fail
  refine (drawTableOf_any A c bs _ hx hl hc hcm HB.out).mono ?_
  rintro e w1 ⟨A1, c1, ps, rfl, hlen, ho, h1⟩
  clear hx hl hc hcm HB hb1
  have hl : ps.length ≤ 1048576 := by omega
  have HP1 := Lib.hid ho.seq
  have HN1 : Hid (A1 = none → c1 = 0) := Lib.hid (by
    rintro rfl
    rcases ho.1.2 with ⟨e, -⟩ | ⟨g, cap, cur, e, -⟩
    · injection e
    · injection e with e; cases e)
  clear ho
  by_cases hok : peoOk ps = false
  · have hi := implTableOf_any A1 c1 ps w1 HP1.out hl
    have hs := fun w (hT : SeqP w A1 ps) => specTableOf_any A1 c1 ps w hT hl
    obtain ⟨R, hR⟩ : ∃ R, tofT ps = R := ⟨_, rfl⟩
    have hRm : R.length ≤ maxLen := by rw [← hR, tofT, if_neg (by rw [hok]; simp)]; simp
    rw [hR, hok] at hi
    simp only [hR, hok] at hs
    have HI := Lib.hid hi
    have HS := Lib.hid hs
    have eRR := eqT_same R
    clear hi hs hR hok hlen hl
    go_wp2_with fail
    refine HI.out.mono ?_
    rintro e w2 ⟨A2, c2, rfl, -, hR2, hb2⟩
    have h2 := h1.trans (hb2.mono h1.size)
    have HR2 := Lib.hid hR2.tab
    clear hR2
    go_wp2_with fail
    refine (HS.out _ (HP1.out.below hb2)).mono ?_
    rintro e w3 ⟨A3, c3, rfl, -, hR3, hb3⟩
    have h3 := h2.trans (hb3.mono h2.size)
    have HR3 := Lib.hid hR3
    have HR2' := Lib.hid (HR2.out.below hb3)
    clear hR3
    go_wp2_with fail
    refine (sameRows_any A2 A3 c2 c3 R R _ HR2'.out HR3.out hRm).mono ?_
    rintro e w4 ⟨rfl, q4⟩
    have h4 := h3.trans (q4.below.mono h3.size)
    have HR24 := Lib.hid (HR2'.out.below q4.below)
    have HR34 := Lib.hid (HR3.out.below q4.below)
    clear q4
    go_wp2_with fail
    refine (sameRows_any A2 A3 c2 c3 R R _ HR24.out HR34.out hRm).mono ?_
    rintro e w5 ⟨rfl, q5⟩
    have h5 := h4.trans (q5.below.mono h4.size)
    clear q5
    go_wp2_with fail
    go_ret
    exact ⟨rfl, h5⟩
  · have hok : peoOk ps = true := by simpa using hok
    have hR : tofT ps = mkT 4 4 (cntP ps) := by rw [tofT, if_pos hok]
    have hi := implTableOf_any A1 c1 ps w1 HP1.out hl
    have hs := fun w (hT : SeqP w A1 ps) => specTableOf_any A1 c1 ps w hT hl
    rw [hR, hok] at hi
    simp only [hR, hok] at hs
    have HI := Lib.hid hi
    have HS := Lib.hid hs
    have HOK := Lib.hid hok
    have HGD := Lib.hid (cnt_good hok)
    have eRR := eqT_same (mkT 4 4 (cntP ps))
    have hsr := fun (A B : Option Addr) (c d : Nat) (W : World) (hx : Tab IntV W A (mkT 4 4 (cntP ps))) (hy : Tab IntV W B (mkT 4 4 (cntP ps))) => sameRows_any A B c d _ _ W hx hy (by rw [mkT_len]; unfold maxLen; omega)
    simp only [mkT_len, eRR] at hsr
    have HSR := Lib.hid hsr
    clear hi hs hR hok eRR hsr
    go_wp2_with fail
    refine HI.out.mono ?_
    rintro e w2 ⟨A2, c2, rfl, -, hR2, hb2⟩
    rw [mkT_len]
    have h2 := h1.trans (hb2.mono h1.size)
    have HR2 := Lib.hid hR2.tab
    clear hR2
    go_wp2_with fail
    refine (HS.out _ (HP1.out.below hb2)).mono ?_
    rintro e w3 ⟨A3, c3, rfl, -, hR3, hb3⟩
    rw [mkT_len]
    have h3 := h2.trans (hb3.mono h2.size)
    have HR3 := Lib.hid hR3
    have HR2' := Lib.hid (HR2.out.below hb3)
    have hb13 := hb2.trans (hb3.mono hb2.size)
    clear hR3
    go_wp2_with fail
    refine (HSR.out A2 A3 c2 c3 _ HR2'.out HR3.out).mono ?_
    rintro e w4 ⟨rfl, q4⟩
    have h4 := h3.trans (q4.below.mono h3.size)
    have HO4 := Lib.hid (HR2'.out.below q4.below)
    have HP4 := Lib.hid (HP1.out.below (hb13.trans (q4.below.mono hb13.size)))
    clear q4 hb2 hb3 hb13 HR2 HR3 HR2' HSR HI HS HP1 h1 h2 h3

    have hI := implSums_yes A2 c2 4 4 (cntP ps) _ HO4.out HGD.out
    rw [cnt_rows HOK.out, cnt_cols HOK.out] at hI
    obtain ⟨xs, exs⟩ : ∃ xs, (mkL 4 fun i => ((cntQ ps i (-1) : Nat) : Int)) = xs := ⟨_, rfl⟩
    obtain ⟨ys, eys⟩ : ∃ ys, (mkL 4 fun j => ((cntQ ps (-1) j : Nat) : Int)) = ys := ⟨_, rfl⟩
    rw [exs, eys] at hI
    have ELX := Lib.hid exs.symm
    have ELY := Lib.hid eys.symm
    have LX : Hid (xs.length = 4) := Lib.hid (by rw [← exs, mkL_len])
    have LY : Hid (ys.length = 4) := Lib.hid (by rw [← eys, mkL_len])
    have HI5 := Lib.hid hI
    clear hI exs eys
    go_wp2_with fail
    refine HI5.out.mono ?_
    rintro e w5 ⟨A5, c5, B5, d5, rfl, o5, p5, -, hb5⟩
    have h5 := h4.trans (hb5.mono h4.size)
    have HX5 := Lib.hid (Lst.of_own o5)
    have HY5 := Lib.hid (Lst.of_own p5)
    have HP5 := Lib.hid (HP4.out.below hb5)
    rw [LX.out, LY.out]
    clear o5 p5 hb5 HP4 HO4 HI5
    go_wp2_with fail

    go_loopw [11] (fun i wr => ∃ k : Nat, k ≤ 4 ∧ i = .int .i64 k ∧ Hid (Below w5.heap.size w5 wr)) (fun i _ => 4 - (intOf i).toNat)
    case atStart => exact ⟨0, by omega, rfl, Lib.hid (Below.refl _ _)⟩
    case round =>
      obtain ⟨k, hk, rfl, HW⟩ := hrel
      obtain ⟨W, rfl⟩ : ∃ W : World, W = wr := ⟨_, rfl⟩
      by_cases hlt : k < 4
      · obtain ⟨b, o, x, rfl, hbb, hxk, cR⟩ := (HX5.out.1.below HW.out).at_ (k := k) (by rw [LX.out]; exact hlt)
        have HPW := Lib.hid (HP5.out.below HW.out)
        have hxv : x = ((cntQ ps k (-1) : Nat) : Int) := by
          rw [ELX.out, mkL_get _ hlt] at hxk
          injection hxk with hxk
          exact hxk.symm
        obtain ⟨z, hz⟩ : ∃ z : Nat, cntQ ps k (-1) = z := ⟨_, rfl⟩
        have hmany := fun W' (hp : SeqP W' A1 ps) => implMany_any A1 c1 ps k (-1) W' hp HOK.out (ask_nat hlt) ask_any
        rw [hz] at hxv hmany
        subst hxv
        have HMANY := Lib.hid hmany
        have zz : ((z : Int) != (z : Int)) = false := by simp
        simp only [IntV] at cR
        have g4 : (k : Int) < 4 := by omega
        clear hmany hz hxk
        go_wp2_with fail
        go_region_with
          (first | (go_at_call 32; refine (HMANY.out _ (HPW.out.below (below_drewN (Below.refl _ _) 1))).mono ?_; rintro e w9 ⟨rfl, hb9⟩; have cR9 := (hb9.cell (p := ⟨b, o + k, none⟩) (by simp; exact hbb)).trans cR))
        all_goals
          have HW9 : Hid (Below w5.heap.size w5 w9) := Lib.hid (HW.out.drew.trans (hb9.mono (by simpa using HW.out.size)))
          clear hb9 cR9
          go_wp2_with fail
          go_roundw
          case rel => exact ⟨k + 1, by omega, by go_num, HW9⟩
          case measure => simp [intOf]; omega
      · obtain rfl : k = 4 := by omega
        go_wp2_with fail
        rw [show ((4 : Nat) : Int) = 4 from rfl]
        have HW0 := HW
        clear HW
        go_loopw [12] (fun i wr => ∃ k : Nat, k ≤ 4 ∧ i = .int .i64 k ∧ Hid (Below w5.heap.size w5 wr)) (fun i _ => 4 - (intOf i).toNat)
        case atStart => exact ⟨0, by omega, rfl, HW0⟩
        case round =>
          obtain ⟨k, hk, rfl, HW⟩ := hrel
          obtain ⟨W, rfl⟩ : ∃ W : World, W = wr := ⟨_, rfl⟩
          by_cases hlt : k < 4
          · obtain ⟨b, o, x, rfl, hbb, hxk, cR⟩ := (HY5.out.1.below HW.out).at_ (k := k) (by rw [LY.out]; exact hlt)
            have HPW := Lib.hid (HP5.out.below HW.out)
            have hxv : x = ((cntQ ps (-1) k : Nat) : Int) := by
              rw [ELY.out, mkL_get _ hlt] at hxk
              injection hxk with hxk
              exact hxk.symm
            obtain ⟨z, hz⟩ : ∃ z : Nat, cntQ ps (-1) k = z := ⟨_, rfl⟩
            have hmany := fun W' (hp : SeqP W' A1 ps) => implMany_any A1 c1 ps (-1) k W' hp HOK.out ask_any (ask_nat hlt)
            rw [hz] at hxv hmany
            subst hxv
            have HMANY := Lib.hid hmany
            have zz : ((z : Int) != (z : Int)) = false := by simp
            simp only [IntV] at cR
            have g4 : (k : Int) < 4 := by omega
            clear hmany hz hxk
            go_wp2_with fail
            go_region_with
              (first | (go_at_call 32; refine (HMANY.out _ (HPW.out.below (below_drewN (Below.refl _ _) 1))).mono ?_; rintro e w9 ⟨rfl, hb9⟩; have cR9 := (hb9.cell (p := ⟨b, o + k, none⟩) (by simp; exact hbb)).trans cR))
            all_goals
              have HW9 : Hid (Below w5.heap.size w5 w9) := Lib.hid (HW.out.drew.trans (hb9.mono (by simpa using HW.out.size)))
              clear hb9 cR9
              go_wp2_with fail
              go_roundw
              case rel => exact ⟨k + 1, by omega, by go_num, HW9⟩
              case measure => simp [intOf]; omega
          · obtain rfl : k = 4 := by omega
            go_wp2_with fail
            go_ret
            exact ⟨rfl, h5.trans (HW.out.mono h5.size)⟩
end Go.Proofs.Ytncnghmadeghlaa.fnTableOfSums
