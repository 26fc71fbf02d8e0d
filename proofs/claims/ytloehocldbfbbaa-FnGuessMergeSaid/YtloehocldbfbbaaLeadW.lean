/- What PartsLead, PartsGuess and PartsSpare answer. -/
import Derived.Test.YtloehocldbfbbaaTopW
namespace Go.Proofs.Ytloehocldbfbbaa
def partsLead (xs : List Int) (n p : Int) : Bool := partsValid xs && decide (1 ≤ n ∧ n ≤ 20) && decide (0 ≤ p ∧ p ≤ 100) && decide (p * tot xs < top xs n.toNat * 100)
def need (xs : List Int) (p : Int) : Int := top xs 1 * p - 100 * (tot xs - top xs 2)
def spareOk (xs : List Int) (p : Int) : Bool := partsValid xs && decide (0 ≤ p ∧ p ≤ 100)
def partsSpare (xs : List Int) (p : Int) : Int := if spareOk xs p = true then (if need xs p ≤ 0 then 0 else (need xs p + 99) / 100) else -1
def partsGuess (xs : List Int) (p : Int) : Bool := spareOk xs p && decide (0 < need xs p)
theorem lead_no {xs : List Int} {n p : Int} (h : ¬ (partsValid xs = true ∧ (1 ≤ n ∧ n ≤ 20) ∧ (0 ≤ p ∧ p ≤ 100))) : partsLead xs n p = false := by
  cases e : partsLead xs n p
  · rfl
  · simp [partsLead] at e
    exact absurd ⟨e.1.1.1, e.1.1.2, e.1.2⟩ h
theorem lead_yes {xs : List Int} {n p : Int} (h : partsValid xs = true) (hn : 1 ≤ n ∧ n ≤ 20) (hp : 0 ≤ p ∧ p ≤ 100) : partsLead xs n p = decide (p * tot xs < top xs n.toNat * 100) := by simp [partsLead, h, hn, hp]
theorem lead_iff {xs : List Int} {n p : Int} : partsLead xs n p = true ↔ partsValid xs = true ∧ (1 ≤ n ∧ n ≤ 20) ∧ (0 ≤ p ∧ p ≤ 100) ∧ p * tot xs < top xs n.toNat * 100 := by
  simp [partsLead, and_assoc]
theorem spareOk_iff {xs : List Int} {p : Int} : spareOk xs p = true ↔ partsValid xs = true ∧ 0 ≤ p ∧ p ≤ 100 := by simp [spareOk]
theorem spareOk_no {xs : List Int} {p : Int} (h : ¬ (partsValid xs = true ∧ 0 ≤ p ∧ p ≤ 100)) : spareOk xs p = false := by
  cases e : spareOk xs p
  · rfl
  · exact absurd (spareOk_iff.1 e) h
theorem spare_no {xs : List Int} {p : Int} (h : ¬ (partsValid xs = true ∧ 0 ≤ p ∧ p ≤ 100)) : partsSpare xs p = -1 := by
  rw [partsSpare, spareOk_no h]; rfl
theorem spare_yes {xs : List Int} {p : Int} (h : partsValid xs = true) (hp : 0 ≤ p ∧ p ≤ 100) : partsSpare xs p = if need xs p ≤ 0 then 0 else (need xs p + 99) / 100 := by
  rw [partsSpare, if_pos (spareOk_iff.2 ⟨h, hp⟩)]
theorem guess_spare (xs : List Int) (p : Int) : partsGuess xs p = decide (0 < partsSpare xs p) := by
  rw [partsGuess, partsSpare]
  cases h : spareOk xs p
  · simp
  · simp only [Bool.true_and, if_true]
    split
    · simp; omega
    · simp; omega
theorem guess_iff {xs : List Int} {p : Int} : partsGuess xs p = true ↔ partsValid xs = true ∧ (0 ≤ p ∧ p ≤ 100) ∧ 0 < need xs p := by
  simp [partsGuess, spareOk, and_assoc]
theorem top_range {xs : List Int} (h : partsValid xs = true) (n : Nat) : 0 ≤ top xs n ∧ top xs n ≤ 2000000 := top_bound (valid_mem h) (valid_len h) n
theorem tot_range {xs : List Int} (h : partsValid xs = true) : 0 ≤ tot xs ∧ tot xs ≤ 2000000 := by
  rw [← top_all (Nat.le_refl xs.length)]; exact top_range h _
theorem mul_range {a p : Int} (h0 : 0 ≤ a) (h1 : a ≤ 2000000) (p0 : 0 ≤ p) (p1 : p ≤ 100) : 0 ≤ a * p ∧ a * p ≤ 200000000 := by
  refine ⟨Int.mul_nonneg h0 p0, ?_⟩
  have h2 : a * p ≤ 2000000 * p := Int.mul_le_mul_of_nonneg_right h1 p0
  omega
theorem rest_range {xs : List Int} (h : partsValid xs = true) (n : Nat) : 0 ≤ tot xs - top xs n := by
  have := top_le_tot (fun x hx => (valid_mem h x hx).1) n
  omega
theorem need_range {xs : List Int} {p : Int} (h : partsValid xs = true) (hp : 0 ≤ p ∧ p ≤ 100) : -200000000 ≤ need xs p ∧ need xs p ≤ 200000000 := by
  have t1 := top_range h 1
  have t2 := top_range h 2
  have t3 := tot_range h
  have t4 := rest_range h 2
  have m := mul_range t1.1 t1.2 hp.1 hp.2
  unfold need
  omega
end Go.Proofs.Ytloehocldbfbbaa
