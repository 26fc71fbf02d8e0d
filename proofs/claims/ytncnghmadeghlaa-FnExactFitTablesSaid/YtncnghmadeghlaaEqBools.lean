/- Plain words: two lists of flags are equal, told as the loops tell it. -/
import Derived.Test.YtncnghmadeghlaaMem
namespace Go.Proofs.Ytncnghmadeghlaa
open Go.RowKit

/-- two lists are equal, told as the loops tell it -/
def eqTailB : List Bool → List Bool → Bool
  | [], _ => true
  | x :: r, y :: s => decide (x = y) && eqTailB r s
  | _ :: _, [] => true
theorem eqTailB_same (xs : List Bool) : eqTailB xs xs = true := by
  induction xs with
  | nil => rfl
  | cons x r ih => simp [eqTailB, ih]
theorem eqTailB_iff : ∀ (xs ys : List Bool), xs.length = ys.length → (eqTailB xs ys = true ↔ xs = ys)
  | [], [], _ => by simp [eqTailB]
  | x :: r, y :: s, h => by simp [eqTailB, eqTailB_iff r s (by simpa using h)]
  | [], y :: s, h => by simp at h
  | x :: r, [], h => by simp at h

/-- what eqIntS and sameInts answer -/
def eqBools (xs ys : List Bool) : Bool := decide (xs = ys)
theorem eqBools_same (xs : List Bool) : eqBools xs xs = true := by simp [eqBools]
theorem eqBools_step {xs ys : List Bool} {k : Nat} {x y : Bool} (hx : xs[k]? = some x) (hy : ys[k]? = some y) (hP : xs.take k = ys.take k) (h : x = y) : xs.take (k + 1) = ys.take (k + 1) := by
  rw [take_snoc' hx, take_snoc' hy, hP, h]
theorem eqBools_bad {xs ys : List Bool} {k : Nat} {x y : Bool} (hx : xs[k]? = some x) (hy : ys[k]? = some y) (h : x ≠ y) : eqBools xs ys = false := by
  simp only [eqBools, decide_eq_false_iff_not]
  rintro rfl
  rw [hx] at hy
  injection hy with hy
  exact h hy
theorem eqBools_end {xs ys : List Bool} {k : Nat} (hl : xs.length = ys.length) (hk : ¬ k < xs.length) (hP : xs.take k = ys.take k) : eqBools xs ys = true := by
  rw [List.take_of_length_le (by omega), List.take_of_length_le (by omega)] at hP
  simp [eqBools, hP]
theorem eqBools_len {xs ys : List Bool} (hl : xs.length ≠ ys.length) : eqBools xs ys = false := by
  simp only [eqBools, decide_eq_false_iff_not]
  rintro rfl
  exact hl rfl

end Go.Proofs.Ytncnghmadeghlaa
