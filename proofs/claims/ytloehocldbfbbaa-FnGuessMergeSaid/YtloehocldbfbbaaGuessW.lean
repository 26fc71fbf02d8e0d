/- Plain laws of the needs, the spares and the guesses; PartsTop of the program at valid contributions. -/
import Derived.Test.YtloehocldbfbbaaWords
import Derived.Test.YtloehocldbfbbaaLeadW
import Derived.Test.YtloehocldbfbbaaTopI
namespace Go.Proofs.Ytloehocldbfbbaa
open Go.RowKit
set_option linter.unusedVariables false
theorem implTop_v (A : Option Addr) (c : Nat) (xs : List Int) (n : Int) (k : Nat) (w : World) (hk : n = (k : Int)) (hk1 : k ≤ 100) (hx : Lst IntV w A c xs) (hv : partsValid xs = true) :
    Calls Try.prog 19 #[.slice A xs.length c, .int .i64 n] w (Gives (.int .i64 (top xs k)) w) := by
  have hl := valid_len hv
  have h := implPartsTop_g A c xs n w hx (by omega) (fun x hm => WalkArith.wf_i64 (by have := valid_mem hv x hm; omega)) (WalkArith.wf_i64 (by omega))
  subst hk
  rw [partsTop_nat hv] at h
  exact h
theorem need_perm {xs ys : List Int} (h : ys.Perm xs) (p : Int) : need ys p = need xs p := by rw [need, need, top_perm h, top_perm h, tot_perm h]
theorem guess_perm {xs ys : List Int} (h : ys.Perm xs) (p : Int) : partsGuess ys p = partsGuess xs p := by rw [partsGuess, partsGuess, spareOk, spareOk, valid_perm h, need_perm h]
theorem spare_perm {xs ys : List Int} (h : ys.Perm xs) (p : Int) : partsSpare ys p = partsSpare xs p := by rw [partsSpare, partsSpare, spareOk, spareOk, valid_perm h, need_perm h]
theorem need_twice (xs : List Int) (p : Int) : need (xs.map fun x => 2 * x) p = 2 * need xs p := by
  rw [need, need, top_twice, top_twice, tot_map2, Int.mul_assoc]; omega
theorem guess_twice {xs : List Int} {p : Int} (h : partsGuess xs p = true) (hv : partsValid (xs.map fun x => 2 * x) = true) : partsGuess (xs.map fun x => 2 * x) p = true := by
  rw [guess_iff] at h ⊢
  refine ⟨hv, h.2.1, ?_⟩
  rw [need_twice]; omega
theorem snoc_valid {xs : List Int} {m : Int} (hv : partsValid xs = true) (hl : xs.length + 1 ≤ 20) (hm : 0 ≤ m ∧ m ≤ 100000) : partsValid (xs ++ [m]) = true :=
  valid_of (fun x hx => by
    rcases List.mem_append.1 hx with hx | hx
    · exact valid_mem hv x hx
    · rw [List.mem_singleton] at hx; omega) (by simp; omega)
theorem top1_nth (xs : List Int) : top xs 1 = nth xs 0 := by
  have : top xs 1 = top xs 0 + nth xs 0 := top_succ xs 0
  rw [top_zero] at this
  omega
theorem top2_nth (xs : List Int) : top xs 2 - top xs 1 = nth xs 1 := by
  have : top xs 2 = top xs 1 + nth xs 1 := top_succ xs 1
  omega
theorem top1_range {xs : List Int} (hv : partsValid xs = true) : 0 ≤ top xs 1 ∧ top xs 1 ≤ 100000 := by
  rw [top1_nth]; exact nth_range (valid_mem hv) (by omega) 0
theorem tot_snoc1 (xs : List Int) (m : Int) : tot (xs ++ [m]) = tot xs + m := by rw [tot_append]; simp [tot]
/-- a number more that is no greater than the greatest: the need does not grow -/
theorem need_add {xs : List Int} {m p : Int} (hv : partsValid xs = true) (hm : 0 ≤ m) (hm1 : m ≤ top xs 1) : need (xs ++ [m]) p ≤ need xs p := by
  have h1 : top (xs ++ [m]) 1 = top xs 1 := top_keep (valid_nonneg hv) hm 0 (by rw [← top1_nth]; exact hm1)
  have h2 := (top_add (valid_nonneg hv) hm 2).2
  rw [need, need, h1, tot_snoc1]; omega
/-- a number more that is no greater than the second: the need goes down by a hundred times it -/
theorem need_add2 {xs : List Int} {m p : Int} (hv : partsValid xs = true) (hm : 0 ≤ m) (hm1 : m ≤ top xs 2 - top xs 1) : need (xs ++ [m]) p = need xs p - 100 * m := by
  have hn : m ≤ nth xs 1 := by rw [← top2_nth]; exact hm1
  have hn0 : m ≤ nth xs 0 := Int.le_trans hn (nth_desc (valid_nonneg hv) (by omega))
  have h1 : top (xs ++ [m]) 1 = top xs 1 := top_keep (valid_nonneg hv) hm 0 hn0
  have h2 : top (xs ++ [m]) 2 = top xs 2 := top_keep (valid_nonneg hv) hm 1 hn
  rw [need, need, h1, h2, tot_snoc1]; omega
theorem need_next (xs : List Int) (p : Int) : need xs (p + 1) = need xs p + top xs 1 := by
  rw [need, need, Int.mul_add, Int.mul_one]; omega
theorem spare_ge {xs : List Int} {p : Int} (h : ¬ partsSpare xs p < 0) : partsValid xs = true ∧ (0 ≤ p ∧ p ≤ 100) := by
  apply Classical.byContradiction
  intro hc
  rw [spare_no hc] at h
  omega
theorem spare_num {xs : List Int} {p : Int} (hv : partsValid xs = true) (hp : 0 ≤ p ∧ p ≤ 100) :
    0 ≤ partsSpare xs p ∧ partsSpare xs p ≤ 2000001 ∧ need xs p ≤ 100 * partsSpare xs p ∧ (0 < partsSpare xs p → 100 * partsSpare xs p ≤ need xs p + 99) := by
  have hr := need_range hv hp
  rw [spare_yes hv hp]
  split <;> omega
theorem spare_range (xs : List Int) (p : Int) : -1 ≤ partsSpare xs p ∧ partsSpare xs p ≤ 2000001 := by
  by_cases h : partsValid xs = true ∧ 0 ≤ p ∧ p ≤ 100
  · have := spare_num h.1 h.2
    omega
  · rw [spare_no h]; omega
theorem guess_num {xs : List Int} {p : Int} : partsGuess xs p = decide (0 < partsSpare xs p) := guess_spare xs p
theorem no_guess {xs : List Int} {p : Int} (h : need xs p ≤ 0) : partsGuess xs p = false := by
  cases e : partsGuess xs p
  · rfl
  · have := (guess_iff.1 e).2.2
    omega
end Go.Proofs.Ytloehocldbfbbaa
