/- Plain words on sizes of tables. -/
import Derived.Test.YtncnghmadeghlaaTab
namespace Go.Proofs.Ytncnghmadeghlaa
set_option linter.unusedVariables false
def szRow (n : Nat) (l : Int) : Int := if l - (n : Int) < 0 then -1 else l - n
def szGo {α : Type} : List (List α) → Int → Int
  | [], l => l
  | r :: t, l => if szRow r.length l < 0 then -1 else szGo t (szRow r.length l)
def szT {α : Type} (t : List (List α)) (l : Int) : Int := if l - (t.length : Int) < 0 then -1 else szGo t (l - t.length)
theorem szRow_le (n : Nat) {l : Int} (h : 0 ≤ l) : szRow n l ≤ l := by unfold szRow; split <;> omega
theorem szRow_fit {n : Nat} {l : Int} (h : ¬ szRow n l < 0) : (n : Int) ≤ l := by unfold szRow at h; split at h <;> omega
theorem szGo_fit {α : Type} : ∀ (t : List (List α)) (l : Int), 0 ≤ l → ¬ szGo t l < 0 → (∀ r ∈ t, (r.length : Int) ≤ l) ∧ szGo t l ≤ l
  | [], l, _, _ => ⟨by simp, Int.le_refl _⟩
  | r :: t, l, h0, h => by
    simp only [szGo] at h ⊢
    by_cases hz : szRow r.length l < 0
    · rw [if_pos hz] at h; omega
    · rw [if_neg hz] at h ⊢
      have h1 := szRow_le r.length h0
      have h2 := szGo_fit t (szRow r.length l) (by omega) h
      refine ⟨fun q hq => ?_, by omega⟩
      rcases List.mem_cons.1 hq with rfl | hq
      · exact szRow_fit hz
      · have := h2.1 q hq; omega
theorem szT_fit {α : Type} {t : List (List α)} {l : Int} (h0 : 0 ≤ l) (h : ¬ szT t l < 0) : (t.length : Int) ≤ l ∧ (∀ r ∈ t, (r.length : Int) ≤ l) ∧ szT t l ≤ l := by
  unfold szT at h ⊢
  by_cases hz : l - (t.length : Int) < 0
  · rw [if_pos hz] at h; omega
  · rw [if_neg hz] at h ⊢
    have h2 := szGo_fit t (l - t.length) (by omega) h
    exact ⟨by omega, fun r hr => by have := h2.1 r hr; omega, by omega⟩
end Go.Proofs.Ytncnghmadeghlaa
