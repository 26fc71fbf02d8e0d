/- Plain words: two lists of integers are equal, told as the loops tell it. -/
import Derived.Test.YtncnghmadeghlaaMem
namespace Go.Proofs.Ytncnghmadeghlaa
open Go.RowKit

/-- two lists are equal, told as the loops tell it -/
def eqTail : List Int → List Int → Bool
  | [], _ => true
  | x :: r, y :: s => decide (x = y) && eqTail r s
  | _ :: _, [] => true
theorem eqTail_same (xs : List Int) : eqTail xs xs = true := by
  induction xs with
  | nil => rfl
  | cons x r ih => simp [eqTail, ih]
theorem eqTail_iff : ∀ (xs ys : List Int), xs.length = ys.length → (eqTail xs ys = true ↔ xs = ys)
  | [], [], _ => by simp [eqTail]
  | x :: r, y :: s, h => by simp [eqTail, eqTail_iff r s (by simpa using h)]
  | [], y :: s, h => by simp at h
  | x :: r, [], h => by simp at h

/-- what eqIntS and sameInts answer -/
def eqInts (xs ys : List Int) : Bool := decide (xs = ys)
theorem eqInts_same (xs : List Int) : eqInts xs xs = true := by simp [eqInts]
theorem eqInts_step {xs ys : List Int} {k : Nat} {x y : Int} (hx : xs[k]? = some x) (hy : ys[k]? = some y) (hP : xs.take k = ys.take k) (h : x = y) : xs.take (k + 1) = ys.take (k + 1) := by
  rw [take_snoc' hx, take_snoc' hy, hP, h]
theorem eqInts_bad {xs ys : List Int} {k : Nat} {x y : Int} (hx : xs[k]? = some x) (hy : ys[k]? = some y) (h : x ≠ y) : eqInts xs ys = false := by
  simp only [eqInts, decide_eq_false_iff_not]
  rintro rfl
  rw [hx] at hy
  injection hy with hy
  exact h hy
theorem eqInts_end {xs ys : List Int} {k : Nat} (hl : xs.length = ys.length) (hk : ¬ k < xs.length) (hP : xs.take k = ys.take k) : eqInts xs ys = true := by
  rw [List.take_of_length_le (by omega), List.take_of_length_le (by omega)] at hP
  simp [eqInts, hP]
theorem eqInts_len {xs ys : List Int} (hl : xs.length ≠ ys.length) : eqInts xs ys = false := by
  simp only [eqInts, decide_eq_false_iff_not]
  rintro rfl
  exact hl rfl

end Go.Proofs.Ytncnghmadeghlaa
