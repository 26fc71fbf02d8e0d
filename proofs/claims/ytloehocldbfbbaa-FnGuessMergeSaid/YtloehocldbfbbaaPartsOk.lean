/- Contracts of the functions on contributions without sorting: PartsValid of program and reference, l6In, toIntS, eqIntS. No condition beyond how the arguments lie in memory. -/
import Derived.Test.YtloehocldbfbbaaMem
import Derived.Test.YtloehocldbfbbaaRows
import Derived.Outline
import Derived.Deep.QuietTactic
import Derived.BigQuiet
namespace Go.Proofs.Ytloehocldbfbbaa
open Go.RowKit

def inB (n lo hi : Int) : Bool := decide (lo ≤ n ∧ n ≤ hi)
theorem inB_yes {n lo hi : Int} (h1 : lo ≤ n) (h2 : n ≤ hi) : inB n lo hi = true := by simp [inB, h1, h2]
theorem inB_no {n lo hi : Int} (h : n < lo ∨ hi < n) : inB n lo hi = false := by simp [inB]; omega
def partsOk : List Int → Bool
  | [] => true
  | x :: r => inB x 0 100000 && partsOk r
def partsValid (xs : List Int) : Bool := partsOk xs && decide (xs.length ≤ 20)

theorem partsOk_step {xs : List Int} {k : Nat} {x : Int} (h : xs[k]? = some x) : partsOk (xs.drop k) = (inB x 0 100000 && partsOk (xs.drop (k + 1))) := by
  rw [drop_cons h]; rfl
theorem partsOk_next {xs : List Int} {k : Nat} {x : Int} (h : xs[k]? = some x) (hP : partsOk xs = partsOk (xs.drop k)) (h1 : 0 ≤ x) (h2 : x ≤ 100000) : partsOk xs = partsOk (xs.drop (k + 1)) := by
  rw [hP, partsOk_step h, inB_yes h1 h2, Bool.true_and]
theorem partsValid_bad {xs : List Int} {k : Nat} {x : Int} (h : xs[k]? = some x) (hP : partsOk xs = partsOk (xs.drop k)) (h1 : x < 0 ∨ 100000 < x) : partsValid xs = false := by
  rw [partsValid, hP, partsOk_step h, inB_no h1]; simp
theorem partsValid_end {xs : List Int} {k : Nat} (hk : ¬ k < xs.length) (hP : partsOk xs = partsOk (xs.drop k)) : partsValid xs = decide ((xs.length : Int) ≤ 20) := by
  rw [partsValid, hP, List.drop_eq_nil_of_le (by omega)]; simp [partsOk]; omega

set_option maxHeartbeats 400000 in
theorem l6In_any (n lo hi : Int) (w : World) :
    Calls Try.prog 28 #[.int .i64 n, .int .i64 lo, .int .i64 hi] w fun e w' => e = .returned (.bool (inB n lo hi)) ∧ w = w' := by
  by_cases h1 : lo ≤ n
  · by_cases h2 : n ≤ hi
    · go_enter Try.func28, Try.ntmps28
      go_wp2
      go_ret
      exact ⟨ret_bool (inB_yes h1 h2).symm, rfl⟩
    · go_enter Try.func28, Try.ntmps28
      go_wp2
      go_ret
      exact ⟨ret_bool (inB_no (by omega)).symm, rfl⟩
  · go_enter Try.func28, Try.ntmps28
    go_wp2
    go_ret
    exact ⟨ret_bool (inB_no (by omega)).symm, rfl⟩

set_option maxHeartbeats 400000 in
theorem implPartsValid_any (A : Option Addr) (c : Nat) (xs : List Int) (w : World) (hx : Seq IntV w A xs) (hl : xs.length ≤ maxLen) :
    Calls Try.prog 15 #[.slice A xs.length c] w fun e w' => e = .returned (.bool (partsValid xs)) ∧ w = w' := by
  unfold maxLen at hl
  go_enter Try.func15, Try.ntmps15
  go_wp2
  go_loop [7] (fun i => ∃ k : Nat, k ≤ xs.length ∧ i = .int .i64 k ∧ Hid (partsOk xs = partsOk (xs.drop k))) (fun i => xs.length - (intOf i).toNat)
  case atStart => exact ⟨0, Nat.zero_le _, rfl, Lib.hid (by simp)⟩
  case round =>
    obtain ⟨k, hk, rfl, HP⟩ := hrel
    by_cases hlt : k < xs.length
    · obtain ⟨b, o, x, rfl, hb, hxk, hc⟩ := hx.at_ hlt
      have HX := Lib.hid hxk
      clear hxk
      by_cases h1 : x < 0
      · go_wp2
        go_ret
        exact ⟨ret_bool (partsValid_bad HX.out HP.out (.inl h1)).symm, rfl⟩
      by_cases h2 : 100000 < x
      · go_wp2
        go_ret
        exact ⟨ret_bool (partsValid_bad HX.out HP.out (.inr h2)).symm, rfl⟩
      · go_wp2
        go_round
        case rel => exact ⟨k + 1, by omega, by go_num, Lib.hid (partsOk_next HX.out HP.out (by omega) (by omega))⟩
        case measure => simp [intOf]; omega
    · go_wp2
      go_ret
      exact ⟨ret_bool (partsValid_end hlt HP.out).symm, rfl⟩

set_option maxHeartbeats 400000 in
theorem specPartsValid_any (A : Option Addr) (c : Nat) (xs : List Int) (w : World) (hx : Seq IntV w A xs) (hl : xs.length ≤ maxLen) :
    Calls Try.prog 27 #[.slice A xs.length c] w fun e w' => e = .returned (.bool (partsValid xs)) ∧ w = w' := by
  unfold maxLen at hl
  go_enter Try.func27, Try.ntmps27
  go_wp2
  go_loop [3] (fun i => ∃ k : Nat, k ≤ xs.length ∧ i = .int .i64 k ∧ Hid (partsOk xs = partsOk (xs.drop k))) (fun i => xs.length - (intOf i).toNat)
  case atStart => exact ⟨0, Nat.zero_le _, rfl, Lib.hid (by simp)⟩
  case round =>
    obtain ⟨k, hk, rfl, HP⟩ := hrel
    by_cases hlt : k < xs.length
    · obtain ⟨b, o, x, rfl, hb, hxk, hc⟩ := hx.at_ hlt
      have HX := Lib.hid hxk
      clear hxk
      by_cases h1 : 0 ≤ x ∧ x ≤ 100000
      · have hi := inB_yes h1.1 h1.2
        go_wp2_with (go_at_call 28; refine (l6In_any _ _ _ _).mono ?_; rintro e w' ⟨rfl, rfl⟩)
        go_round
        case rel => exact ⟨k + 1, by omega, by go_num, Lib.hid (partsOk_next HX.out HP.out (by omega) (by omega))⟩
        case measure => simp [intOf]; omega
      · have hi := inB_no (n := x) (lo := 0) (hi := 100000) (by omega)
        go_wp2_with (go_at_call 28; refine (l6In_any _ _ _ _).mono ?_; rintro e w' ⟨rfl, rfl⟩)
        go_ret
        exact ⟨ret_bool (partsValid_bad HX.out HP.out (by omega)).symm, rfl⟩
    · go_wp2
      go_ret
      exact ⟨ret_bool (partsValid_end hlt HP.out).symm, rfl⟩

end Go.Proofs.Ytloehocldbfbbaa
