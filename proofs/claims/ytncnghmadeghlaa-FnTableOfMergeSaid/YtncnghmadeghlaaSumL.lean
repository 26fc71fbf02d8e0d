/- Plain words: the sum of a list. -/
import Derived.Test.YtncnghmadeghlaaLst
namespace Go.Proofs.Ytncnghmadeghlaa
open Go.RowKit
set_option linter.unusedVariables false
theorem sum_take {xs : List Int} {k : Nat} {x : Int} (h : xs[k]? = some x) : (xs.take (k + 1)).sum = (xs.take k).sum + x := by
  rw [take_snoc' h]; simp
theorem sum_range {M : Int} (hM : 0 ≤ M) : ∀ {xs : List Int}, (∀ x ∈ xs, -M ≤ x ∧ x ≤ M) → -(xs.length * M) ≤ xs.sum ∧ xs.sum ≤ xs.length * M
  | [], _ => by simp
  | x :: xs, h => by
    have h1 := sum_range hM (xs := xs) fun y hy => h y (List.mem_cons_of_mem _ hy)
    have h2 := h x List.mem_cons_self
    rw [List.sum_cons, List.length_cons, Int.natCast_succ, Int.add_mul]
    omega
theorem sum_part {xs : List Int} (hl : xs.length ≤ 100) (hM : ∀ x ∈ xs, -1000000 ≤ x ∧ x ≤ 1000000) (k : Nat) : -100000000 ≤ (xs.take k).sum ∧ (xs.take k).sum ≤ 100000000 := by
  have h := sum_range (M := 1000000) (by omega) (xs := xs.take k) fun x hx => hM x (List.mem_of_mem_take hx)
  have hk : (xs.take k).length ≤ 100 := by simp; omega
  omega
end Go.Proofs.Ytncnghmadeghlaa
