/- The contract of PartsFew of the program. No condition beyond how the arguments lie in memory. -/
import Derived.Test.YtajdcjimpnheoaaFewW
import Derived.WalkLawsBesides
namespace Go.Proofs.Ytajdcjimpnheoaa
open Go.RowKit
set_option linter.unusedVariables false

set_option maxHeartbeats 400000 in
theorem implPartsFew_any (A : Option Addr) (c : Nat) (xs : List Int) (n : Int) (w : World) (hx : Seq IntV w A xs) (hl : xs.length ≤ maxLen) :
    Calls Try.prog 30 #[.slice A xs.length c, .int .i64 n] w fun e w' => e = .returned (.bool (partsFew xs n)) ∧ w = w' := by
  cases hv : partsValid xs
  · have HV := Lib.hid hv
    go_enter Try.func30, Try.ntmps30
    go_wp2_with fail
    refine (implPartsValid_any _ _ _ _ hx hl).mono ?_
    rintro e w' ⟨rfl, rfl⟩
    go_wp2_with fail
    go_ret
    exact ⟨ret_bool (partsFew_no HV.out n).symm, rfl⟩
  · have hlen := valid_len hv
    have HV := Lib.hid hv
    go_enter Try.func30, Try.ntmps30
    go_wp2_with fail
    refine (implPartsValid_any _ _ _ _ hx hl).mono ?_
    rintro e w' ⟨rfl, rfl⟩
    go_wp2_with fail
    clear hv hl
    go_loop [5, 13] (fun m i => ∃ k : Nat, k ≤ xs.length ∧ i = .int .i64 k ∧ m = .int .i64 (many (xs.take k))) (fun _ i => xs.length - (intOf i).toNat)
    case atStart => exact ⟨0, Nat.zero_le _, rfl, rfl⟩
    case round =>
      obtain ⟨k, hk, rfl, rfl⟩ := hrel
      have m0 := many_nonneg (xs.take k)
      have m1 : many (xs.take k) ≤ k := by have := many_le (xs.take k); have := List.length_take_le k xs; omega
      by_cases hlt : k < xs.length
      · obtain ⟨b, o, x, rfl, hb, hxk, hc⟩ := hx.at_ hlt
        have HX := Lib.hid hxk
        clear hxk
        by_cases h1 : x = 0
        · have h2 : (x != 0) = false := by simp [h1]
          have H1 := Lib.hid h1
          clear h1
          go_wp2
          go_round
          case rel => exact ⟨k + 1, by omega, by go_num, by rw [many_snoc HX.out, if_pos H1.out]; go_num⟩
          case measure => simp [intOf]; omega
        · have h2 : (x != 0) = true := by simp [h1]
          go_wp2
          go_round
          case rel => exact ⟨k + 1, by omega, by go_num, by rw [many_snoc HX.out, if_neg h1]⟩
          case measure => simp [intOf]; omega
      · by_cases h1 : 1 ≤ many (xs.take k)
        · by_cases h2 : many (xs.take k) < n
          · go_wp2
            go_ret
            exact ⟨ret_bool (few_end HV.out hlt (decide_eq_true (by omega)).symm), rfl⟩
          · have h2' : decide (many (xs.take k) < n) = false := by simpa using h2
            go_wp2
            go_ret
            exact ⟨ret_bool (few_end HV.out hlt (decide_eq_false (by omega)).symm), rfl⟩
        · have h1' : decide (1 ≤ many (xs.take k)) = false := by simpa using h1
          go_wp2
          go_ret
          exact ⟨ret_bool (few_end HV.out hlt (decide_eq_false (by omega)).symm), rfl⟩

end Go.Proofs.Ytajdcjimpnheoaa
