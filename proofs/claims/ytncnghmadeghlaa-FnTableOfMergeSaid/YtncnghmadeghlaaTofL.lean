/- Plain laws on the table that is counted from people. -/
import Derived.Test.YtncnghmadeghlaaMany
import Derived.Test.YtncnghmadeghlaaSumsOf
namespace Go.Proofs.Ytncnghmadeghlaa
set_option linter.unusedVariables false
theorem cntP_cons (p : Per) (ps : List Per) (a j : Nat) : cntP (p :: ps) a j = cntP ps a j + if p.area = (a : Int) ∧ p.job = (j : Int) then 1 else 0 := by
  unfold cntP
  rw [List.countP_cons]
  by_cases h : p.area = (a : Int) ∧ p.job = (j : Int)
  · rw [if_pos h, if_pos (by simp [h.1, h.2])]; omega
  · rw [if_neg h, if_neg (by simpa using h)]; omega
theorem cntQ_cons (p : Per) (ps : List Per) (a j : Int) : ((cntQ (p :: ps) a j : Nat) : Int) = (cntQ ps a j : Nat) + if isP a j p = true then 1 else 0 := by
  unfold cntQ
  rw [List.countP_cons]
  split <;> omega
theorem beqc (a b : Nat) : (((a : Nat) : Int) == ((b : Nat) : Int)) = decide (a = b) := by
  rw [Bool.eq_iff_iff, beq_iff_eq, decide_eq_true_eq]
  omega
theorem cnt_cell (ps : List Per) (a j : Nat) : cntP ps a j = ((cntQ ps a j : Nat) : Int) := by
  unfold cntP cntQ
  have h1 : ((a : Int) == -1) = false := beq_eq_false_iff_ne.2 (by omega)
  have h2 : ((j : Int) == -1) = false := beq_eq_false_iff_ne.2 (by omega)
  have e : (fun p : Per => p.area == (a : Int) && p.job == (j : Int)) = isP a j := by
    funext p
    simp [isP, h1, h2]
  rw [e]
theorem cnt_row : ∀ (ps : List Per) (a : Nat), (∀ p ∈ ps, perOk p = true) → sumN 4 (cntP ps a) = ((cntQ ps a (-1) : Nat) : Int)
  | [], a, _ => by simp [sumN, cntP, cntQ]
  | p :: ps, a, h => by
    have ih := cnt_row ps a fun q hq => h q (List.mem_cons_of_mem _ hq)
    obtain ⟨a', j, s, e1, e2, -, -, hj, -⟩ := perOk_at (h p List.mem_cons_self)
    have h1 : ((a : Int) == -1) = false := beq_eq_false_iff_ne.2 (by omega)
    have hi : isP a (-1) p = decide (a' = a) := by simp [isP, h1, e1, beqc]
    rw [cntQ_cons, ← ih, hi]
    simp only [sumN, cntP_cons, e1, e2]
    by_cases e : a' = a
    · subst e
      have h4 : j = 0 ∨ j = 1 ∨ j = 2 ∨ j = 3 := by omega
      rcases h4 with rfl | rfl | rfl | rfl <;> simp <;> omega
    · have e' : ¬ ((a' : Int) = (a : Int)) := by omega
      simp [e, e']
theorem cnt_col : ∀ (ps : List Per) (j : Nat), (∀ p ∈ ps, perOk p = true) → sumN 4 (fun i => cntP ps i j) = ((cntQ ps (-1) j : Nat) : Int)
  | [], a, _ => by simp [sumN, cntP, cntQ]
  | p :: ps, j, h => by
    have ih := cnt_col ps j fun q hq => h q (List.mem_cons_of_mem _ hq)
    obtain ⟨a, j', s, e1, e2, -, ha, -⟩ := perOk_at (h p List.mem_cons_self)
    have h1 : ((j : Int) == -1) = false := beq_eq_false_iff_ne.2 (by omega)
    have hi : isP (-1) j p = decide (j' = j) := by simp [isP, h1, e2, beqc]
    rw [cntQ_cons, ← ih, hi]
    simp only [sumN, cntP_cons, e1, e2]
    by_cases e : j' = j
    · subst e
      have h4 : a = 0 ∨ a = 1 ∨ a = 2 ∨ a = 3 := by omega
      rcases h4 with rfl | rfl | rfl | rfl <;> simp <;> omega
    · have e' : ¬ ((j' : Int) = (j : Int)) := by omega
      simp [e, e']
theorem cnt_all : ∀ (ps : List Per), (∀ p ∈ ps, perOk p = true) → sumN 4 (fun i => ((cntQ ps i (-1) : Nat) : Int)) = ps.length
  | [], _ => by simp [sumN, cntQ]
  | p :: ps, h => by
    have ih := cnt_all ps fun q hq => h q (List.mem_cons_of_mem _ hq)
    obtain ⟨a, j', s, e1, e2, -, ha, -⟩ := perOk_at (h p List.mem_cons_self)
    have hi : ∀ b : Nat, isP b (-1) p = decide (a = b) := fun b => by
      have h1 : ((b : Int) == -1) = false := beq_eq_false_iff_ne.2 (by omega)
      simp [isP, h1, e1, beqc]
    simp only [sumN, cntQ_cons, hi] at ih ⊢
    have h4 : a = 0 ∨ a = 1 ∨ a = 2 ∨ a = 3 := by omega
    rcases h4 with rfl | rfl | rfl | rfl <;> simp at ih ⊢ <;> omega
theorem peoOk_all {ps : List Per} (h : peoOk ps = true) : ∀ p ∈ ps, perOk p = true := by
  simp only [peoOk, Bool.and_eq_true] at h
  exact List.all_eq_true.1 h.1
theorem cnt_good {ps : List Per} (h : peoOk ps = true) : Good 4 4 (cntP ps) :=
  ⟨by omega, by omega, by omega, by omega, fun i j => (cntP_le ps i j).1, fun i j => by have := (cntP_le ps i j).2; have := peoOk_len h; omega⟩
theorem cnt_rows {ps : List Per} (h : peoOk ps = true) : rowL 4 4 (cntP ps) = mkL 4 fun i => ((cntQ ps i (-1) : Nat) : Int) := mkL_ext fun i _ => cnt_row ps i (peoOk_all h)
theorem cnt_cols {ps : List Per} (h : peoOk ps = true) : colL 4 4 (cntP ps) = mkL 4 fun j => ((cntQ ps (-1) j : Nat) : Int) := mkL_ext fun j _ => cnt_col ps j (peoOk_all h)
theorem ask_nat {a : Nat} (h : a < 4) : Ask a := .inr (by omega)
theorem ask_any : Ask (-1) := .inl rfl
end Go.Proofs.Ytncnghmadeghlaa
