/- Plain words on PartsFew and on valid contributions. -/
import Derived.Test.YtloehocldbfbbaaPartsOk
namespace Go.Proofs.Ytloehocldbfbbaa
open Go.RowKit
set_option linter.unusedVariables false

def many : List Int → Int
  | [] => 0
  | x :: r => (if x = 0 then 0 else 1) + many r
theorem many_append (xs ys : List Int) : many (xs ++ ys) = many xs + many ys := by
  induction xs with
  | nil => simp [many]
  | cons x r ih => simp [many, ih]; omega
theorem many_nonneg (xs : List Int) : 0 ≤ many xs := by
  induction xs with
  | nil => simp [many]
  | cons x r ih => simp only [many]; split <;> omega
theorem many_le (xs : List Int) : many xs ≤ xs.length := by
  induction xs with
  | nil => simp [many]
  | cons x r ih => simp only [many, List.length_cons]; split <;> omega
theorem many_snoc {xs : List Int} {k : Nat} {x : Int} (h : xs[k]? = some x) : many (xs.take (k + 1)) = many (xs.take k) + (if x = 0 then 0 else 1) := by
  rw [take_snoc' h, many_append]; simp [many]
theorem partsOk_mem {xs : List Int} (h : partsOk xs = true) : ∀ x ∈ xs, 0 ≤ x ∧ x ≤ 100000 := by
  induction xs with
  | nil => simp
  | cons y r ih =>
    simp [partsOk, inB] at h
    intro x hx
    rcases List.mem_cons.1 hx with rfl | hx
    · omega
    · exact ih h.2 x hx
theorem partsOk_of {xs : List Int} (h : ∀ x ∈ xs, 0 ≤ x ∧ x ≤ 100000) : partsOk xs = true := by
  induction xs with
  | nil => rfl
  | cons y r ih =>
    have := h y (by simp)
    simp only [partsOk, Bool.and_eq_true]
    exact ⟨inB_yes this.1 this.2, ih fun x hx => h x (by simp [hx])⟩
theorem valid_len {xs : List Int} (h : partsValid xs = true) : xs.length ≤ 20 := by simp [partsValid] at h; omega
theorem valid_mem {xs : List Int} (h : partsValid xs = true) : ∀ x ∈ xs, 0 ≤ x ∧ x ≤ 100000 := by simp [partsValid] at h; exact partsOk_mem h.1
theorem valid_of {xs : List Int} (h : ∀ x ∈ xs, 0 ≤ x ∧ x ≤ 100000) (hl : xs.length ≤ 20) : partsValid xs = true := by simp [partsValid, partsOk_of h, hl]
theorem valid_iff {xs : List Int} : partsValid xs = true ↔ (∀ x ∈ xs, 0 ≤ x ∧ x ≤ 100000) ∧ xs.length ≤ 20 := ⟨fun h => ⟨valid_mem h, valid_len h⟩, fun h => valid_of h.1 h.2⟩

def partsFew (xs : List Int) (n : Int) : Bool := partsValid xs && decide (1 ≤ many xs ∧ many xs < n)
theorem partsFew_no {xs : List Int} (h : partsValid xs = false) (n : Int) : partsFew xs n = false := by simp [partsFew, h]
theorem partsFew_yes {xs : List Int} (h : partsValid xs = true) (n : Int) : partsFew xs n = decide (1 ≤ many xs ∧ many xs < n) := by simp [partsFew, h]
theorem few_end {xs : List Int} {k : Nat} {n : Int} {b : Bool} (h : partsValid xs = true) (hk : ¬ k < xs.length) (hb : b = decide (1 ≤ many (xs.take k) ∧ many (xs.take k) < n)) : b = partsFew xs n := by
  rw [List.take_of_length_le (by omega)] at hb
  rw [partsFew_yes h, hb]

end Go.Proofs.Ytloehocldbfbbaa
