/- A valid mask is a rectangle of flags. -/
import Derived.Test.YtncnghmadeghlaaMaskV
import Derived.Test.YtncnghmadeghlaaMkW
namespace Go.Proofs.Ytncnghmadeghlaa
open Go.RowKit
set_option linter.unusedVariables false
/-- a valid mask is a rectangle of flags -/
theorem mask_cases (t : List (List Int)) (m : List (List Bool)) : maskValid t m = false ∨ ∃ h wd G M, t = mkT h wd G ∧ Good h wd G ∧ m = mkT h wd M := by
  cases hv : maskValid t m
  · exact .inl rfl
  · right
    rcases tab_cases t with ht | ⟨h, wd, G, rfl, gd⟩
    · rw [maskValid_no ht] at hv; cases hv
    · have hl : m.length = h := by
        by_cases e : m.length = (mkT h wd G).length
        · rw [e, mkT_len]
        · rw [maskValid_len e] at hv; cases hv
      rw [maskValid_yes gd.valid (by rw [hl, mkT_len]), mkT_wid _ gd.h1] at hv
      refine ⟨h, wd, G, cel false m, rfl, gd, ?_⟩
      rw [← hl]
      exact rect_mk fun r hr => by
        have := List.all_eq_true.1 hv r hr
        simpa using this
theorem maskValid_mk {h wd : Nat} {G : Nat → Nat → Int} {M : Nat → Nat → Bool} (g : Good h wd G) : maskValid (mkT h wd G) (mkT h wd M) = true := by
  rw [maskValid, g.valid, mkT_len, mkT_len, mkT_wid _ g.h1, decide_eq_true rfl]
  simp only [Bool.true_and, lensOk, List.all_eq_true, decide_eq_true_eq]
  intro r hr
  obtain ⟨i, hi, rfl⟩ := mkT_mem.1 hr
  exact mkL_len _ _
end Go.Proofs.Ytncnghmadeghlaa
