/- A rectangle of one's own that grew by appends: its cells. -/
import Derived.Test.YtncnghmadeghlaaGrow
import Derived.Test.YtncnghmadeghlaaGrid
namespace Go.Proofs.Ytncnghmadeghlaa
open Go.RowKit
set_option linter.unusedVariables false
section
variable {α : Type} {f : α → Value} {T E : TypeId} {lo : Nat} {w : World} {vs : Nat → Value} {t : List (List α)}
theorem Grow.tab_ {A : Option Addr} {n c : Nat} (h : Grow f T E lo w (.slice A n c) vs t) (hn : t.length = n) : Tab f w A t := by
  subst hn
  by_cases h0 : 0 < t.length
  · obtain ⟨g, rfl, ho⟩ := h.own h0
    exact ho.tab
  · have e : t = [] := List.eq_nil_of_length_eq_zero (by omega)
    subst e
    exact Tab.nil_
theorem Grow.cel_ {A : Option Addr} {h wd c i j : Nat} {F : Nat → Nat → α} (hg : Grow f T E lo w (.slice A h c) vs (mkT h wd F)) (hi : i < h) (hj : j < wd) :
    ∃ g b cap, A = some ⟨g, 0, none⟩ ∧ (lo ≤ g ∧ g < w.heap.size) ∧ (lo ≤ b ∧ b < w.heap.size) ∧ b ≠ g ∧ w.cell? ⟨g, i, none⟩ = some (.slice (some ⟨b, 0, none⟩) wd cap) ∧ w.cell? ⟨b, j, none⟩ = some (f (F i j)) ∧ w.frozen? ⟨b, j, none⟩ = false ∧
      ∀ x, Grow f T E lo (w.setCell ⟨b, j, none⟩ (f x)) (.slice A h c) vs (mkT h wd (up2 F i j x)) := by
  obtain ⟨g, rfl, h1, h2, h3, -⟩ := hg.outer_ (j := i) (by rw [mkT_len]; exact hi)
  obtain ⟨b, cap, e, k1, k2, k3, k4, k5, k6⟩ := hg.spot (mkT_get F hi) (i := j) (by rw [mkL_len]; exact hj)
  rw [mkL_len] at e
  rw [mkL_at] at k4
  refine ⟨g, b, cap, rfl, ⟨h1, h2⟩, ⟨k1, k2⟩, fun e2 => k3 (by rw [e2]; rfl), by rw [h3, e], k4, k5, fun x => ?_⟩
  have := k6 x
  rw [mkT_set] at this
  exact this
end
end Go.Proofs.Ytncnghmadeghlaa
