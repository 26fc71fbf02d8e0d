/- The table that is counted from people. -/
import Derived.Test.YtncnghmadeghlaaPeoV
import Derived.Test.YtncnghmadeghlaaMkW
namespace Go.Proofs.Ytncnghmadeghlaa
open Go.RowKit
set_option linter.unusedVariables false
/-- how many people have an area and a job -/
def cntP (ps : List Per) (a j : Nat) : Int := ((ps.countP fun p => p.area == (a : Int) && p.job == (j : Int) : Nat) : Int)
def tofT (ps : List Per) : List (List Int) := if peoOk ps = true then mkT 4 4 (cntP ps) else []
theorem cntP_nil : cntP [] = fun _ _ => 0 := by funext a j; rfl
theorem cntP_snoc (ps : List Per) (p : Per) {a j : Nat} (ha : p.area = a) (hj : p.job = j) : up2 (cntP ps) a j (cntP ps a j + 1) = cntP (ps ++ [p]) := by
  funext x y
  unfold up2 cntP
  rw [List.countP_append]
  by_cases h : x = a ∧ y = j
  · obtain ⟨rfl, rfl⟩ := h
    rw [if_pos ⟨rfl, rfl⟩]
    simp [ha, hj]
  · rw [if_neg h]
    have : (p.area == (x : Int) && p.job == (y : Int)) = false := by
      rw [Bool.eq_false_iff]
      intro e
      simp at e
      exact h ⟨by omega, by omega⟩
    simp [this]
theorem cntP_le (ps : List Per) (a j : Nat) : 0 ≤ cntP ps a j ∧ cntP ps a j ≤ ps.length := by
  have := List.countP_le_length (p := fun p : Per => p.area == (a : Int) && p.job == (j : Int)) (l := ps)
  unfold cntP
  omega
theorem perOk_at {p : Per} (h : perOk p = true) : ∃ a j s : Nat, p.area = a ∧ p.job = j ∧ p.sex = s ∧ a < 4 ∧ j < 4 ∧ s < 2 ∧ 0 ≤ p.pay ∧ p.pay ≤ 999 := by
  simp only [perOk, inB, Bool.and_eq_true, decide_eq_true_eq] at h
  exact ⟨p.area.toNat, p.job.toNat, p.sex.toNat, by omega, by omega, by omega, by omega, by omega, by omega, by omega, by omega⟩
theorem peoOk_at {ps : List Per} (h : peoOk ps = true) {k : Nat} {p : Per} (hk : ps[k]? = some p) : perOk p = true := by
  simp only [peoOk, Bool.and_eq_true] at h
  exact List.all_eq_true.1 h.1 p (List.mem_of_getElem? hk)
theorem peoOk_len {ps : List Per} (h : peoOk ps = true) : ps.length ≤ 40 := by
  simp only [peoOk, Bool.and_eq_true, decide_eq_true_eq] at h
  exact h.2
end Go.Proofs.Ytncnghmadeghlaa
