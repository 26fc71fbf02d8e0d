/- Plain words: what a valid table is. -/
import Derived.Test.YtncnghmadeghlaaTab
import Derived.Test.YtncnghmadeghlaaL6In
namespace Go.Proofs.Ytncnghmadeghlaa
set_option linter.unusedVariables false
def cellOk (x : Int) : Bool := inB x 0 99
def cellsOk (r : List Int) : Bool := r.all cellOk
def rowOk (n : Nat) (r : List Int) : Bool := decide (r.length = n) && cellsOk r
def rowsOk (n : Nat) (t : List (List Int)) : Bool := t.all (rowOk n)
def wid {α : Type} (t : List (List α)) : Nat := (t.headD []).length
def tabValid (t : List (List Int)) : Bool := decide (1 ≤ t.length ∧ t.length ≤ 4 ∧ 1 ≤ wid t ∧ wid t ≤ 4) && rowsOk (wid t) t
theorem tabValid_no {t : List (List Int)} (h : ¬ (1 ≤ t.length ∧ t.length ≤ 4 ∧ 1 ≤ wid t ∧ wid t ≤ 4)) : tabValid t = false := by
  rw [tabValid, decide_eq_false h, Bool.false_and]
theorem tabValid_yes {t : List (List Int)} (h : 1 ≤ t.length ∧ t.length ≤ 4 ∧ 1 ≤ wid t ∧ wid t ≤ 4) : tabValid t = rowsOk (wid t) t := by
  rw [tabValid, decide_eq_true h, Bool.true_and]
theorem wid_at {α : Type} {t : List (List α)} {r : List α} (h : t[0]? = some r) : wid t = r.length := by
  cases t with
  | nil => simp at h
  | cons a b => simp at h; subst h; rfl
theorem rows_step {n : Nat} {t : List (List Int)} {k : Nat} {r : List Int} (h : t[k]? = some r) : rowsOk n (t.drop k) = (rowOk n r && rowsOk n (t.drop (k + 1))) := by
  rw [drop_cons h]; rfl
theorem cells_step {r : List Int} {k : Nat} {x : Int} (h : r[k]? = some x) : cellsOk (r.drop k) = (cellOk x && cellsOk (r.drop (k + 1))) := by
  rw [drop_cons h]; rfl
theorem row_len {n : Nat} {r : List Int} (h : r.length ≠ n) : rowOk n r = false := by rw [rowOk, decide_eq_false h, Bool.false_and]
theorem row_ok {n : Nat} {r : List Int} (h : r.length = n) : rowOk n r = cellsOk r := by rw [rowOk, decide_eq_true h, Bool.true_and]
theorem tabValid_iff {t : List (List Int)} : tabValid t = true ↔ (1 ≤ t.length ∧ t.length ≤ 4 ∧ 1 ≤ wid t ∧ wid t ≤ 4) ∧ ∀ r ∈ t, r.length = wid t ∧ ∀ x ∈ r, 0 ≤ x ∧ x ≤ 99 := by
  simp [tabValid, rowsOk, rowOk, cellsOk, cellOk, inB]
end Go.Proofs.Ytncnghmadeghlaa
