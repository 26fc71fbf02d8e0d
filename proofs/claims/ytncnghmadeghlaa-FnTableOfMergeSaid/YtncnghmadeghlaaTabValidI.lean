/- The contract of TableValid of the program. -/
import Derived.Test.YtncnghmadeghlaaTabW
import Derived.WalkLawsBesides
namespace Go.Proofs.Ytncnghmadeghlaa
open Go.RowKit
set_option linter.unusedVariables false
theorem cell_yes {x : Int} (h0 : 0 ≤ x) (h1 : x ≤ 99) : cellOk x = true := inB_yes h0 h1
theorem cell_no {x : Int} (h : x < 0 ∨ 99 < x) : cellOk x = false := inB_no h
set_option maxHeartbeats 1000000 in
theorem implTableValid_any (A : Option Addr) (c : Nat) (t : List (List Int)) (w : World) (hx : Tab IntV w A t) (hl : t.length ≤ maxLen) :
    Calls Try.prog 42 #[.slice A t.length c] w fun e w' => e = .returned (.bool (tabValid t)) ∧ w = w' := by
  unfold maxLen at hl
  by_cases h1 : t.length < 1
  · go_enter Try.func42, Try.ntmps42
    go_wp2
    go_ret
    exact ⟨ret_bool (tabValid_no (by omega)).symm, rfl⟩
  have h1' : decide ((t.length : Int) < 1) = false := decide_eq_false (by omega)
  by_cases h2 : 4 < t.length
  · go_enter Try.func42, Try.ntmps42
    go_wp2
    go_ret
    exact ⟨ret_bool (tabValid_no (by omega)).symm, rfl⟩
  have h2' : decide (4 < (t.length : Int)) = false := decide_eq_false (by omega)
  obtain ⟨b, o, r0, A0, c0, rfl, hb, hr0, hc0, hL0⟩ := hx.at_ (k := 0) (by omega)
  have hw := wid_at hr0
  have hcm : (r0.length : Int) ≤ 9223372036854775807 := by have h1 := hL0.2.1; have h2 := hL0.2.2.1; unfold maxLen at h2; omega
  have HW := Lib.hid hw
  clear hw hL0 hr0
  simp only [Nat.add_zero] at hc0
  by_cases h3 : r0.length < 1
  · go_enter Try.func42, Try.ntmps42
    go_wp2
    go_ret
    exact ⟨ret_bool (tabValid_no (by rw [HW.out]; omega)).symm, rfl⟩
  have h3' : decide ((r0.length : Int) < 1) = false := decide_eq_false (by omega)
  by_cases h4 : 4 < r0.length
  · go_enter Try.func42, Try.ntmps42
    go_wp2
    go_ret
    exact ⟨ret_bool (tabValid_no (by rw [HW.out]; omega)).symm, rfl⟩
  have h4' : decide (4 < (r0.length : Int)) = false := decide_eq_false (by omega)
  have HV : Hid (tabValid t = rowsOk r0.length t) := Lib.hid (by rw [tabValid_yes (by rw [HW.out]; omega), HW.out])
  clear HW
  go_enter Try.func42, Try.ntmps42
  go_wp2
  go_loop [31] (fun i => ∃ k : Nat, k ≤ t.length ∧ i = .int .i64 k ∧ Hid (tabValid t = rowsOk r0.length (t.drop k))) (fun i => t.length - (intOf i).toNat)
  case atStart => exact ⟨0, Nat.zero_le _, rfl, Lib.hid (by rw [HV.out]; simp)⟩
  case round =>
    obtain ⟨k, hk, rfl, HP⟩ := hrel
    clear HV
    by_cases hlt : k < t.length
    · obtain ⟨b', o', r, Ar, cr, hAA, hb', hr, hc, hL⟩ := hx.at_ hlt
      obtain ⟨rfl, rfl⟩ : b = b' ∧ o = o' := by injection hAA with hAA; injection hAA with h1 h2; exact ⟨h1, h2⟩
      have hrm : (r.length : Int) ≤ 9223372036854775807 := by have h1 := hL.2.1; have h2 := hL.2.2.1; unfold maxLen at h2; omega
      have HR := Lib.hid (rows_step (n := r0.length) hr)
      have HL := Lib.hid hL
      clear hAA hr hL
      by_cases hn : r.length = r0.length
      · have hn' : ((r.length : Int) != (r0.length : Int)) = false := by simp [hn]
        have HRO := Lib.hid (row_ok hn)
        have hnl : r.length ≤ 4 := by omega
        clear hn
        go_wp2
        go_loop [44] (fun i => ∃ j : Nat, j ≤ r.length ∧ i = .int .i64 j ∧ Hid (cellsOk r = cellsOk (r.drop j))) (fun i => r.length - (intOf i).toNat)
        case atStart => exact ⟨0, Nat.zero_le _, rfl, Lib.hid (by simp)⟩
        case round =>
          obtain ⟨j, hj, rfl, HJ⟩ := hrel
          by_cases hjl : j < r.length
          · obtain ⟨b2, o2, x, rfl, hb2, hxk, hcx⟩ := HL.out.1.at_ hjl
            have HX := Lib.hid (cells_step hxk)
            clear hxk
            by_cases x0 : x < 0
            · go_wp2
              go_ret
              exact ⟨ret_bool (by rw [HP.out, HR.out, HRO.out, HJ.out, HX.out, cell_no (.inl x0)]; rfl), rfl⟩
            by_cases x1 : 99 < x
            · have x0' : decide (x < 0) = false := decide_eq_false x0
              go_wp2
              go_ret
              exact ⟨ret_bool (by rw [HP.out, HR.out, HRO.out, HJ.out, HX.out, cell_no (.inr x1)]; rfl), rfl⟩
            · have x0' : decide (x < 0) = false := decide_eq_false x0
              have x1' : decide (99 < x) = false := decide_eq_false x1
              go_wp2
              go_round
              case rel => exact ⟨j + 1, by omega, by go_num, Lib.hid (by rw [HJ.out, HX.out, cell_yes (by omega) (by omega), Bool.true_and])⟩
              case measure => simp [intOf]; omega
          · go_wp2
            go_round
            case rel => exact ⟨k + 1, by omega, by go_num, Lib.hid (by rw [HP.out, HR.out, HRO.out, HJ.out, List.drop_eq_nil_of_le (by omega)]; rfl)⟩
            case measure => simp [intOf]; omega
      · have hn' : ((r.length : Int) != (r0.length : Int)) = true := by simp; omega
        go_wp2
        go_ret
        exact ⟨ret_bool (by rw [HP.out, HR.out, row_len hn]; rfl), rfl⟩
    · go_wp2
      go_ret
      exact ⟨ret_bool (by rw [HP.out, List.drop_eq_nil_of_le (by omega)]; rfl), rfl⟩
end Go.Proofs.Ytncnghmadeghlaa
