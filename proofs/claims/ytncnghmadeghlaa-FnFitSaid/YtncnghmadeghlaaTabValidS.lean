/- The contract of TableValid of the reference. -/
import Derived.Test.YtncnghmadeghlaaTabValidI
namespace Go.Proofs.Ytncnghmadeghlaa
open Go.RowKit
set_option linter.unusedVariables false
set_option maxHeartbeats 1000000 in
theorem specTableValid_any (A : Option Addr) (c : Nat) (t : List (List Int)) (w : World) (hx : Tab IntV w A t) (hl : t.length ≤ maxLen) :
    Calls Try.prog 54 #[.slice A t.length c] w fun e w' => e = .returned (.bool (tabValid t)) ∧ Qu w w' := by
  unfold maxLen at hl
  by_cases h1 : ¬ (1 ≤ t.length ∧ t.length ≤ 4)
  · have hi := inB_no (n := (t.length : Int)) (lo := 1) (hi := 4) (by omega)
    go_enter Try.func54, Try.ntmps54
    go_wp2_with fail
    refine (l6In_any _ _ _ _).mono ?_
    rintro e w' ⟨rfl, rfl⟩
    go_wp2_with fail
    go_ret
    exact ⟨ret_bool (tabValid_no (by omega)).symm, Qu.refl _⟩
  have hi := inB_yes (n := (t.length : Int)) (lo := 1) (hi := 4) (by omega) (by omega)
  obtain ⟨b, o, r0, A0, c0, rfl, hb, hr0, hc0, hL0⟩ := hx.at_ (k := 0) (by omega)
  have hw := wid_at hr0
  have hcm : (r0.length : Int) ≤ 9223372036854775807 := by have h1 := hL0.2.1; have h2 := hL0.2.2.1; unfold maxLen at h2; omega
  have HW := Lib.hid hw
  clear hw hL0 hr0
  simp only [Nat.add_zero] at hc0
  by_cases h3 : ¬ (1 ≤ r0.length ∧ r0.length ≤ 4)
  · have hi2 := inB_no (n := (r0.length : Int)) (lo := 1) (hi := 4) (by omega)
    go_enter Try.func54, Try.ntmps54
    go_wp2_with fail
    refine (l6In_any _ _ _ _).mono ?_
    rintro e w' ⟨rfl, rfl⟩
    go_wp2_with fail
    refine (l6In_any _ _ _ _).mono ?_
    rintro e w' ⟨rfl, rfl⟩
    go_wp2_with fail
    go_ret
    exact ⟨ret_bool (tabValid_no (by rw [HW.out]; omega)).symm, Qu.refl _⟩
  have hi2 := inB_yes (n := (r0.length : Int)) (lo := 1) (hi := 4) (by omega) (by omega)
  have hl4 : t.length ≤ 4 := by omega
  have hpos : 0 < t.length := by omega
  have hpos' : (0 : Int) < (t.length : Int) := by omega
  have hr4 : r0.length ≤ 4 := by omega
  have HV : Hid (tabValid t = rowsOk r0.length t) := Lib.hid (by rw [tabValid_yes (by rw [HW.out]; omega), HW.out])
  clear HW h1 h3
  go_enter Try.func54, Try.ntmps54
  go_wp2_with fail
  refine (l6In_any _ _ _ _).mono ?_
  rintro e w' ⟨rfl, rfl⟩
  go_wp2_with fail
  refine (l6In_any _ _ _ _).mono ?_
  rintro e w' ⟨rfl, rfl⟩
  go_wp2_with fail
  go_loopw [3] (fun i wr => ∃ k : Nat, k ≤ t.length ∧ i = .int .i64 k ∧ Hid (tabValid t = rowsOk r0.length (t.drop k)) ∧ Hid (Qu w wr)) (fun i _ => t.length - (intOf i).toNat)
  case atStart => exact ⟨0, Nat.zero_le _, rfl, Lib.hid (by rw [HV.out]; simp), Lib.hid (Qu.refl _)⟩
  case round =>
    obtain ⟨k, hk, rfl, HP, HQ⟩ := hrel
    obtain ⟨wo, rfl⟩ : ∃ wo : World, wo = wr := ⟨_, rfl⟩
    clear HV
    by_cases hlt : k < t.length
    · obtain ⟨b', o', r, Ar, cr, hAA, hb', hr, hc, hL⟩ := (hx.below HQ.out.below).at_ hlt
      obtain ⟨rfl, rfl⟩ : b = b' ∧ o = o' := by injection hAA with hAA; injection hAA with h1 h2; exact ⟨h1, h2⟩
      have hc0' : wo.cell? ⟨b, o, none⟩ = some (.slice A0 r0.length c0) := (HQ.out.below.cell (p := ⟨b, o, none⟩) hb).trans hc0
      have hrm : (r.length : Int) ≤ 9223372036854775807 := by have h1 := hL.2.1; have h2 := hL.2.2.1; unfold maxLen at h2; omega
      have HR := Lib.hid (rows_step (n := r0.length) hr)
      have HL := Lib.hid hL
      have g1 : (k : Int) < (t.length : Int) := by omega
      have g2 : (0 : Int) < (t.length : Int) := by omega
      clear hAA hr hL
      by_cases hn : r.length = r0.length
      · have hn' : ((r.length : Int) != (r0.length : Int)) = false := by simp [hn]
        have HRO := Lib.hid (row_ok hn)
        have hnl : r.length ≤ 4 := by omega
        clear hn
        go_wp2_with fail
        go_quiet (fail)
        obtain ⟨w9, hw9⟩ : ∃ w9 : World, w9 = wo.drewN nq := ⟨_, rfl⟩
        have HQ9 : Hid (Qu w w9) := Lib.hid (by rw [hw9]; exact HQ.out.drewN nq)
        have hc9 : w9.cell? ⟨b, o + k, none⟩ = some (.slice Ar r.length cr) := by rw [hw9]; exact hc
        have HL9 : Hid (Lst IntV w9 Ar cr r) := Lib.hid (by rw [hw9]; exact HL.out.below (below_drewN (Below.refl _ _) nq))
        rw [← hw9]
        clear hw9 hc hc0' HL HQ
        go_wp2_with fail
        go_loop [4] (fun i => ∃ j : Nat, j ≤ r.length ∧ i = .int .i64 j ∧ Hid (cellsOk r = cellsOk (r.drop j))) (fun i => r.length - (intOf i).toNat)
        case atStart => exact ⟨0, Nat.zero_le _, rfl, Lib.hid (by simp)⟩
        case round =>
          obtain ⟨j, hj, rfl, HJ⟩ := hrel
          by_cases hjl : j < r.length
          · obtain ⟨b2, o2, x, rfl, hb2, hxk, hcx⟩ := HL9.out.1.at_ hjl
            have HX := Lib.hid (cells_step hxk)
            clear hxk
            by_cases hx9 : 0 ≤ x ∧ x ≤ 99
            · have hix := inB_yes hx9.1 hx9.2
              go_wp2_with fail
              refine (l6In_any _ _ _ _).mono ?_
              rintro e w' ⟨rfl, rfl⟩
              go_wp2_with fail
              go_round
              case rel => exact ⟨j + 1, by omega, by go_num, Lib.hid (by rw [HJ.out, HX.out, cell_yes (by omega) (by omega), Bool.true_and])⟩
              case measure => simp [intOf]; omega
            · have hix := inB_no (n := x) (lo := 0) (hi := 99) (by omega)
              go_wp2_with fail
              refine (l6In_any _ _ _ _).mono ?_
              rintro e w' ⟨rfl, rfl⟩
              go_wp2_with fail
              go_ret
              exact ⟨ret_bool (by rw [HP.out, HR.out, HRO.out, HJ.out, HX.out, cell_no (by omega)]; rfl), HQ9.out⟩
          · go_wp2_with fail
            go_roundw
            case rel => exact ⟨k + 1, by omega, by go_num, Lib.hid (by rw [HP.out, HR.out, HRO.out, HJ.out, List.drop_eq_nil_of_le (by omega)]; rfl), HQ9⟩
            case measure => simp [intOf]; omega
      · have hn' : ((r.length : Int) != (r0.length : Int)) = true := by simp; omega
        go_wp2_with fail
        go_quiet (fail)
        go_wp2_with fail
        go_ret
        exact ⟨ret_bool (by rw [HP.out, HR.out, row_len hn]; rfl), HQ.out.drewN _⟩
    · go_wp2_with fail
      go_ret
      exact ⟨ret_bool (by rw [HP.out, List.drop_eq_nil_of_le (by omega)]; rfl), HQ.out⟩
end Go.Proofs.Ytncnghmadeghlaa
