/- MaskMany, sameMask, turnMask. -/
import Derived.Test.YtkneddahefhedaaSmallI
import Derived.Test.YtkneddahefhedaaEqBools
import Derived.Outline
import Derived.Deep.QuietTactic
import Derived.BigQuiet
namespace Go.Proofs.Ytkneddahefhedaa
open Go.RowKit
set_option linter.unusedVariables false
def b2i (b : Bool) : Int := if b then 1 else 0
/-- how many flags are set -/
def manyT (h wd : Nat) (M : Nat → Nat → Bool) : Int := sumN h fun i => sumN wd fun j => b2i (M i j)
theorem b2i_range (b : Bool) : 0 ≤ b2i b ∧ b2i b ≤ 1 := by cases b <;> simp [b2i]
theorem manyP_range {h wd : Nat} (h4 : h ≤ 4) (w4 : wd ≤ 4) (M : Nat → Nat → Bool) (a m : Nat) (ha : a ≤ h) (hm : m ≤ wd) : 0 ≤ sumN a (fun i => sumN wd fun j => b2i (M i j)) + sumN m (fun j => b2i (M a j)) ∧ sumN a (fun i => sumN wd fun j => b2i (M i j)) + sumN m (fun j => b2i (M a j)) ≤ 100 := by
  have e1 : ∀ i, i < a → sumN wd (fun j => b2i (M i j)) ≤ 4 := fun i _ => by
    have := sumN_max (n := wd) (f := fun j => b2i (M i j)) (c := 1) fun j _ => (b2i_range _).2
    omega
  have e2 := sumN_max (n := a) e1
  have e3 := sumN_max (n := m) (f := fun j => b2i (M a j)) (c := 1) fun j _ => (b2i_range _).2
  have e4 := sumN_nonneg (n := a) (f := fun i => sumN wd fun j => b2i (M i j)) fun i _ => sumN_nonneg fun j _ => (b2i_range _).1
  have e5 := sumN_nonneg (n := m) (f := fun j => b2i (M a j)) fun j _ => (b2i_range _).1
  omega
set_option maxHeartbeats 400000 in
theorem implMany_any (A : Option Addr) (c h wd : Nat) (M : Nat → Nat → Bool) (w : World) (hx : Tab BoolV w A (mkT h wd M)) (h4 : h ≤ 4) (w4 : wd ≤ 4) :
    Calls Try.prog 27 #[.slice A h c] w fun e w' => e = .returned (.int .i64 (manyT h wd M)) ∧ w = w' := by
  go_enter Try.func27, Try.ntmps27
  go_wp2_with fail
  go_loop [3, 10] (fun s i => ∃ a : Nat, a ≤ h ∧ i = .int .i64 a ∧ s = .int .i64 (sumN a fun i => sumN wd fun j => b2i (M i j))) (fun _ i => h - (intOf i).toNat)
  case atStart => exact ⟨0, Nat.zero_le _, rfl, rfl⟩
  case round =>
    obtain ⟨i, hi', rfl, rfl⟩ := hrel
    by_cases hi : i < h
    · obtain ⟨b, o, A', c', rfl, hbb, k1, hL⟩ := hx.mkrow hi
      have HL := Lib.hid hL
      clear hL
      obtain ⟨q, eq⟩ : ∃ q, sumN i (fun i => sumN wd fun j => b2i (M i j)) = q := ⟨_, rfl⟩
      have hr : ∀ m, m ≤ wd → 0 ≤ q + sumN m (fun j => b2i (M i j)) ∧ q + sumN m (fun j => b2i (M i j)) ≤ 100 := fun m hm => by rw [← eq]; exact manyP_range h4 w4 M i m hi' hm
      have HR := Lib.hid hr
      have EQ := Lib.hid eq
      rw [eq]
      clear hr eq
      go_wp2_with fail
      go_loop [3, 16] (fun s j => ∃ m : Nat, m ≤ wd ∧ j = .int .i64 m ∧ s = .int .i64 (q + sumN m fun j => b2i (M i j))) (fun _ j => wd - (intOf j).toNat)
      case atStart => exact ⟨0, Nat.zero_le _, rfl, by simp [sumN]⟩
      case round =>
        obtain ⟨j, hj', rfl, rfl⟩ := hrel
        by_cases hj : j < wd
        · obtain ⟨d, p, x, rfl, hdd, hxk, k2⟩ := HL.out.1.at_ (k := j) (by rw [mkL_len]; exact hj)
          rw [mkL_get _ hj] at hxk
          injection hxk with hxk
          have hr1 := HR.out j (by omega)
          obtain ⟨s, es⟩ : ∃ s, q + sumN j (fun j => b2i (M i j)) = s := ⟨_, rfl⟩
          have HS : Hid (q + sumN (j + 1) (fun j => b2i (M i j)) = s + b2i x) := Lib.hid (by rw [← es, ← hxk]; simp only [sumN]; omega)
          rw [es] at hr1
          have r0 := hr1.1
          have r1 := hr1.2
          rw [es]
          clear hxk hr1 es
          cases x
          all_goals
            go_wp2_with fail
            go_round
            case rel => exact ⟨j + 1, by omega, by go_num, by rw [HS.out]; simp [b2i]⟩
            case measure => simp [intOf]; omega
        · obtain rfl : j = wd := by omega
          go_wp2_with fail
          go_round
          case rel => exact ⟨i + 1, by omega, by go_num, by simp only [sumN]; rw [EQ.out]⟩
          case measure => simp [intOf]; omega
    · obtain rfl : i = h := by omega
      go_wp2_with fail
      go_ret
      exact ⟨rfl, rfl⟩
end Go.Proofs.Ytkneddahefhedaa
