/- Plain words on folding, for the laws: rows and sums of a folded table. -/
import Derived.Test.YtncnghmadeghlaaFoldW
import Derived.Test.YtncnghmadeghlaaTotalI
namespace Go.Proofs.Ytncnghmadeghlaa
set_option linter.unusedVariables false
theorem fold_good {n m : Nat} {F : Nat → Nat → Int} (hv : tabValid (mkT n m F) = true) : ∃ H, Good n m H ∧ mkT n m F = mkT n m H ∧ ∀ i j, i < n → j < m → H i j = F i j := by
  rcases tab_cases (mkT n m F) with h | ⟨h, wd, H, e, gd⟩
  · rw [h] at hv; cases hv
  · have e1 : n = h := by have := congrArg List.length e; rwa [mkT_len, mkT_len] at this
    subst e1
    have h1 := gd.h1
    have e2 : m = wd := by
      have := congrArg (fun t => (t[0]?).map List.length) e
      simp only [mkT_get _ (show 0 < n by omega), Option.map_some, mkL_len] at this
      injection this
    subst e2
    exact ⟨H, gd, e, fun i j hi hj => (mkT_inj e hi hj).symm⟩
def atN (q i : Nat) : Nat := if q < i then i - 1 else i
theorem skp_at {q i : Nat} (h : i ≠ q) : skp q (atN q i) = i := by unfold skp atN; split <;> split <;> omega
theorem atN_lt {q i h : Nat} (h1 : i ≠ q) (hq : q < h) (hi : i < h) : atN q i < h - 1 := by unfold atN; split <;> omega
theorem atN_low {q p : Nat} (h : p < q) : atN q p = p := by unfold atN; split <;> omega
theorem atN_ne {p q i : Nat} (hpq : p < q) (h1 : i ≠ q) (h2 : i ≠ p) : atN q i ≠ p := by unfold atN; split <;> omega
theorem atN_same (q : Nat) : atN q q = q := by simp [atN]
theorem atN_next {q i : Nat} (h : i ≠ q) : atN q (i + 1) = atN q i + 1 := by unfold atN; split <;> split <;> omega
theorem atN_over (q : Nat) : atN q (q + 1) = q := by simp [atN]
section
variable {h wd p q : Nat} {G H : Nat → Nat → Int}
theorem fold_row (hH : ∀ i j, i < h - 1 → j < wd → H i j = fdF G p q i j) (hpq : p < q) (hq : q < h) {i : Nat} (hi : i < h) (h1 : i ≠ q) (h2 : i ≠ p) : mkL wd (H (atN q i)) = mkL wd (G i) := mkL_ext fun j hj => by
  rw [hH _ j (atN_lt h1 hq hi) hj, fdF, if_neg (atN_ne hpq h1 h2), skp_at h1]
theorem fold_sum (hH : ∀ i j, i < h - 1 → j < wd → H i j = fdF G p q i j) (hpq : p < q) (hq : q < h) {i : Nat} (hi : i < h - 1) : sumN wd (H i) = sumN wd (G (skp q i)) + if i = p then sumN wd (G q) else 0 := by
  by_cases e : i = p
  · subst e
    rw [if_pos rfl, skp_low hpq, ← sumN_add]
    exact sumN_ext fun j hj => by rw [hH _ j hi hj, fdF, if_pos rfl]
  · rw [if_neg e, Int.add_zero]
    exact sumN_ext fun j hj => by rw [hH _ j hi hj, fdF, if_neg e]
theorem sum_skip (f : Nat → Int) : ∀ n, q < n + 1 → sumN (n + 1) f = sumN n (fun i => f (skp q i)) + f q
  | 0, hn => by
    have : q = 0 := by omega
    subst this; simp [sumN]
  | n + 1, hn => by
    by_cases e : q = n + 1
    · subst e
      rw [sumN, sumN_ext (g := fun i => f (skp (n + 1) i)) fun i hi => by rw [skp_low hi]]
    · rw [sumN, sum_skip f n (by omega)]
      simp only [sumN]
      have : skp q n = n + 1 := by unfold skp; split <;> omega
      rw [this]; omega
theorem fold_cols (hH : ∀ i j, i < h - 1 → j < wd → H i j = fdF G p q i j) (hpq : p < q) (hq : q < h) : colL (h - 1) wd H = colL h wd G := mkL_ext fun j hj => by
  have e1 : sumN (h - 1) (fun i => H i j) = sumN (h - 1) (fun i => G (skp q i) j + if i = p then G q j else 0) := sumN_ext fun i hi => by
    rw [hH i j hi hj, fdF]
    by_cases e : i = p
    · subst e; rw [if_pos rfl, if_pos rfl, skp_low hpq]
    · rw [if_neg e, if_neg e]; omega
  obtain ⟨n, hn⟩ : ∃ n, h = n + 1 := ⟨h - 1, by omega⟩
  have e2 := sum_skip (q := q) (fun i => G i j) n (by omega)
  rw [e1, sumN_add, sumN_one (by omega)]
  subst hn
  exact e2.symm
theorem fold_tot (hH : ∀ i j, i < h - 1 → j < wd → H i j = fdF G p q i j) (hpq : p < q) (hq : q < h) : tot (h - 1) wd H = tot h wd G := by
  obtain ⟨n, hn⟩ : ∃ n, h = n + 1 := ⟨h - 1, by omega⟩
  have e2 := sum_skip (q := q) (fun i => sumN wd (G i)) n (by omega)
  have e1 : sumN (h - 1) (fun i => sumN wd (H i)) = sumN (h - 1) (fun i => sumN wd (G (skp q i)) + if i = p then sumN wd (G q) else 0) := sumN_ext fun i hi => fold_sum hH hpq hq hi
  rw [tot, e1, sumN_add, sumN_one (by omega), tot]
  subst hn
  exact e2.symm
end
end Go.Proofs.Ytncnghmadeghlaa
