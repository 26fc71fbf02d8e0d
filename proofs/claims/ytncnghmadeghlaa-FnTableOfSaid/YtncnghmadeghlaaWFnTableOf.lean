/- The walk of the law FnTableOf: for every code it returns true and leaves old memory alone. -/
import Derived.Test.YtncnghmadeghlaaTofI
import Derived.Test.YtncnghmadeghlaaTofS
import Derived.Test.YtncnghmadeghlaaTofL
import Derived.Test.YtncnghmadeghlaaDTof
import Derived.Test.YtncnghmadeghlaaSame
import Derived.Test.YtncnghmadeghlaaTotalI
import Derived.OpenShut
import Derived.Deep.RegionLaw
import Derived.Deep.RegionWith
import Derived.IntWalk
import Derived.ShutString
import Derived.BigQuiet
namespace Go.Proofs.Ytncnghmadeghlaa.fnTableOf
open Go.RowKit
set_option linter.unusedVariables false


set_option maxRecDepth 100000 in
set_option maxHeartbeats 4000000 in
theorem walk (A : Option Addr) (c : Nat) (bs : List Int) (w : World) (hx : Seq ByteV w A bs) (hl : bs.length ≤ maxLen) (hc : bs.length ≤ c) (hcm : c ≤ maxLen) (hw : ∀ n ∈ bs, (Lit.int .u8 n).wf = true) :
    Calls Try.prog 10 #[.slice A bs.length c] w (Yes w) := by
  have hby : ∀ b ∈ bs, 0 ≤ b ∧ b ≤ 255 := fun b hb => bounds_u8 (hw b hb)
  have HB := Lib.hid hby
  clear hw hby
  by_cases hbig : 1048576 < bs.length
  · unfold maxLen at hl
    go_enter Try.func10, Try.ntmps10
    go_wp2
    go_ret
    exact ⟨rfl, Below.refl _ _⟩
  have hb1 : decide (1048576 < (bs.length : Int)) = false := by simp; omega
  go_enter Try.func10, Try.ntmps10
  go_wp2_with fail
  refine (drawTableOf_any A c bs _ hx hl hc hcm HB.out).mono ?_
  rintro e w1 ⟨A1, c1, ps, rfl, hlen, ho, h1⟩
  clear hx hl hc hcm HB hb1
  have hl : ps.length ≤ 1048576 := by omega
  have HP1 := Lib.hid ho.seq
  have HN1 : Hid (A1 = none → c1 = 0) := Lib.hid (by
    rintro rfl
    rcases ho.1.2 with ⟨e, -⟩ | ⟨g, cap, cur, e, -⟩
    · injection e
    · injection e with e; cases e)
  clear ho
  by_cases hok : peoOk ps = false
  · have hi := implTableOf_any A1 c1 ps w1 HP1.out hl
    have hs := fun w (hT : SeqP w A1 ps) => specTableOf_any A1 c1 ps w hT hl
    obtain ⟨R, hR⟩ : ∃ R, tofT ps = R := ⟨_, rfl⟩
    have hRm : R.length ≤ maxLen := by rw [← hR, tofT, if_neg (by rw [hok]; simp)]; simp
    rw [hR, hok] at hi
    simp only [hR, hok] at hs
    have HI := Lib.hid hi
    have HS := Lib.hid hs
    have eRR := eqT_same R
    clear hi hs hR hok hlen hl
    go_wp2_with fail
    refine HI.out.mono ?_
    rintro e w2 ⟨A2, c2, rfl, -, hR2, hb2⟩
    have h2 := h1.trans (hb2.mono h1.size)
    have HR2 := Lib.hid hR2.tab
    clear hR2
    go_wp2_with fail
    refine (HS.out _ (HP1.out.below hb2)).mono ?_
    rintro e w3 ⟨A3, c3, rfl, -, hR3, hb3⟩
    have h3 := h2.trans (hb3.mono h2.size)
    have HR3 := Lib.hid hR3
    have HR2' := Lib.hid (HR2.out.below hb3)
    clear hR3
    go_wp2_with fail
    refine (sameRows_any A2 A3 c2 c3 R R _ HR2'.out HR3.out hRm).mono ?_
    rintro e w4 ⟨rfl, q4⟩
    have h4 := h3.trans (q4.below.mono h3.size)
    have HR24 := Lib.hid (HR2'.out.below q4.below)
    have HR34 := Lib.hid (HR3.out.below q4.below)
    clear q4
    go_wp2_with fail
    refine (sameRows_any A2 A3 c2 c3 R R _ HR24.out HR34.out hRm).mono ?_
    rintro e w5 ⟨rfl, q5⟩
    have h5 := h4.trans (q5.below.mono h4.size)
    clear q5
    go_wp2_with fail
    go_ret
    exact ⟨rfl, h5⟩
  · have hok : peoOk ps = true := by simpa using hok
    have hR : tofT ps = mkT 4 4 (cntP ps) := by rw [tofT, if_pos hok]
    have hi := implTableOf_any A1 c1 ps w1 HP1.out hl
    have hs := fun w (hT : SeqP w A1 ps) => specTableOf_any A1 c1 ps w hT hl
    rw [hR, hok] at hi
    simp only [hR, hok] at hs
    have HI := Lib.hid hi
    have HS := Lib.hid hs
    have HOK := Lib.hid hok
    have HGD := Lib.hid (cnt_good hok)
    have eRR := eqT_same (mkT 4 4 (cntP ps))
    have hsr := fun (A B : Option Addr) (c d : Nat) (W : World) (hx : Tab IntV W A (mkT 4 4 (cntP ps))) (hy : Tab IntV W B (mkT 4 4 (cntP ps))) => sameRows_any A B c d _ _ W hx hy (by rw [mkT_len]; unfold maxLen; omega)
    simp only [mkT_len, eRR] at hsr
    have HSR := Lib.hid hsr
    clear hi hs hR hok eRR hsr
    go_wp2_with fail
    refine HI.out.mono ?_
    rintro e w2 ⟨A2, c2, rfl, -, hR2, hb2⟩
    rw [mkT_len]
    have h2 := h1.trans (hb2.mono h1.size)
    have HR2 := Lib.hid hR2.tab
    clear hR2
    go_wp2_with fail
    refine (HS.out _ (HP1.out.below hb2)).mono ?_
    rintro e w3 ⟨A3, c3, rfl, -, hR3, hb3⟩
    rw [mkT_len]
    have h3 := h2.trans (hb3.mono h2.size)
    have HR3 := Lib.hid hR3
    have HR2' := Lib.hid (HR2.out.below hb3)
    have hb13 := hb2.trans (hb3.mono hb2.size)
    clear hR3
    go_wp2_with fail
    refine (HSR.out A2 A3 c2 c3 _ HR2'.out HR3.out).mono ?_
    rintro e w4 ⟨rfl, q4⟩
    have h4 := h3.trans (q4.below.mono h3.size)
    have HO4 := Lib.hid (HR2'.out.below q4.below)
    have HP4 := Lib.hid (HP1.out.below (hb13.trans (q4.below.mono hb13.size)))
    clear q4 hb2 hb3 hb13 HR2 HR3 HR2' HSR HI HS HP1 h1 h2 h3

    have htot : tot 4 4 (cntP ps) = (ps.length : Int) := by
      rw [← cnt_all ps (peoOk_all HOK.out)]
      exact sumN_ext fun i _ => cnt_row ps i (peoOk_all HOK.out)
    have HTOT := Lib.hid htot
    have hw0 : Hid (Below w4.heap.size w4 w4) := Lib.hid (Below.refl _ _)
    clear htot
    go_wp2_with fail
    go_loopw [8] (fun i wr => ∃ l : Nat, l ≤ 4 ∧ i = .int .i64 l ∧ Hid (Below w4.heap.size w4 wr)) (fun i _ => 4 - (intOf i).toNat)
    case atStart => exact ⟨0, by omega, rfl, hw0⟩
    case round =>
      clear hw0
      obtain ⟨l, hl4, rfl, HV⟩ := hrel
      obtain ⟨V, rfl⟩ : ∃ V : World, V = wr := ⟨_, rfl⟩
      by_cases hlt : l < 4
      · have g3 : (l : Int) < 4 := by omega
        go_wp2_with fail
        go_loopw [9] (fun i wr => ∃ k : Nat, k ≤ 4 ∧ i = .int .i64 k ∧ Hid (Below w4.heap.size w4 wr)) (fun i _ => 4 - (intOf i).toNat)
        case atStart => exact ⟨0, by omega, rfl, HV⟩
        case round =>
          clear HV
          obtain ⟨k, hk, rfl, HW⟩ := hrel
          obtain ⟨W, rfl⟩ : ∃ W : World, W = wr := ⟨_, rfl⟩
          obtain ⟨b0, o0, q0, d0, rfl, hb0, r0, -⟩ := (HO4.out.below HW.out).mkrow hlt
          by_cases hlk : k < 4
          · obtain ⟨b, o, b', o', c', e1, hb, rc, hb', cc, -⟩ := (HO4.out.below HW.out).mk hlt hlk
            injection e1 with e1
            injection e1 with e11 e12
            subst e11 e12
            have HPW := Lib.hid (HP4.out.below HW.out)
            rw [cnt_cell] at cc
            have hmany := fun W' (hp : SeqP W' A1 ps) => implMany_any A1 c1 ps l k W' hp HOK.out (ask_nat hlt) (ask_nat hlk)
            obtain ⟨z, hz⟩ : ∃ z : Nat, cntQ ps l k = z := ⟨_, rfl⟩
            rw [hz] at cc hmany
            have HMANY := Lib.hid hmany
            have zz : ((z : Int) != (z : Int)) = false := by simp
            simp only [IntV] at cc
            have g4 : (k : Int) < 4 := by omega
            clear hmany hz r0
            go_wp2_with fail
            go_region_with
              (first | (go_at_call 32; refine (HMANY.out _ (HPW.out.below (below_drewN (Below.refl _ _) 1))).mono ?_; rintro e w9 ⟨rfl, hb9⟩; have rc9 := (hb9.cell (p := ⟨b0, o0 + l, none⟩) (by simp; exact hb)).trans rc; have cc9 := (hb9.cell (p := ⟨b', o' + k, none⟩) (by simp; exact hb')).trans cc))
            all_goals
              have HW9 : Hid (Below w4.heap.size w4 w9) := Lib.hid (HW.out.drew.trans (hb9.mono (by simpa using HW.out.size)))
              clear hb9 rc9 cc9
              go_wp2_with fail
              go_roundw
              case rel => exact ⟨k + 1, by omega, by go_num, HW9⟩
              case measure => simp [intOf]; omega
          · obtain rfl : k = 4 := by omega
            go_wp2_with fail
            go_roundw
            case rel => exact ⟨l + 1, by omega, by go_num, HW⟩
            case measure => simp [intOf]; omega
      · obtain rfl : l = 4 := by omega
        have HT := Lib.hid (HO4.out.below HV.out)
        have hto := implTotal_yes A2 c2 4 4 (cntP ps) V HT.out HGD.out
        rw [HTOT.out] at hto
        have HTO := Lib.hid hto
        clear hto
        go_wp2_with fail
        refine HTO.out.mono ?_
        rintro e w9 ⟨rfl, hb9⟩
        have h9 := h4.trans ((HV.out.trans (hb9.mono HV.out.size)).mono h4.size)
        go_wp2_with fail
        go_ret
        exact ⟨rfl, h9⟩
end Go.Proofs.Ytncnghmadeghlaa.fnTableOf
