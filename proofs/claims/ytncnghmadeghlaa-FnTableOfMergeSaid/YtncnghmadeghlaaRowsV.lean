/- A slice of slices as a list of slice values: from a table and back. -/
import Derived.Test.YtncnghmadeghlaaTab
namespace Go.Proofs.Ytncnghmadeghlaa
open Go.RowKit
set_option linter.unusedVariables false
/-- a slice value's three parts -/
structure RowW where
  a : Option Addr
  n : Nat
  c : Nat
abbrev RowV (r : RowW) : Value := .slice r.a r.n r.c
/-- the slice values read as the rows -/
def RowsAre {α : Type} (f : α → Value) (w : World) (us : List RowW) (t : List (List α)) : Prop :=
  us.length = t.length ∧ ∀ (j : Nat) (r : List α) (u : RowW), t[j]? = some r → us[j]? = some u → u.n = r.length ∧ Lst f w u.a u.c r
section
variable {α : Type} {f : α → Value} {w w' : World} {A : Option Addr} {t s : List (List α)} {us vs : List RowW}
theorem RowsAre.below (h : RowsAre f w us t) (hb : Below w.heap.size w w') : RowsAre f w' us t :=
  ⟨h.1, fun j r u h1 h2 => ⟨(h.2 j r u h1 h2).1, (h.2 j r u h1 h2).2.below hb⟩⟩
theorem RowsAre.take (h : RowsAre f w us t) (k : Nat) : RowsAre f w (us.take k) (t.take k) := by
  refine ⟨by simp [h.1], fun j r u h1 h2 => ?_⟩
  rw [List.getElem?_take] at h1 h2
  split at h1
  · next hj => rw [if_pos hj] at h2; exact h.2 j r u h1 h2
  · cases h1
theorem RowsAre.drop (h : RowsAre f w us t) (k : Nat) : RowsAre f w (us.drop k) (t.drop k) := by
  refine ⟨by simp [h.1], fun j r u h1 h2 => ?_⟩
  rw [List.getElem?_drop] at h1 h2
  exact h.2 _ r u h1 h2
theorem RowsAre.append (h : RowsAre f w us t) (k : RowsAre f w vs s) : RowsAre f w (us ++ vs) (t ++ s) := by
  refine ⟨by simp [h.1, k.1], fun j r u h1 h2 => ?_⟩
  have hl := h.1
  by_cases hj : j < t.length
  · rw [List.getElem?_append_left hj] at h1
    rw [List.getElem?_append_left (by omega)] at h2
    exact h.2 j r u h1 h2
  · rw [List.getElem?_append_right (by omega)] at h1
    rw [List.getElem?_append_right (by omega), hl] at h2
    exact k.2 _ r u h1 h2
theorem RowsAre.nil_ : RowsAre f w [] ([] : List (List α)) := ⟨rfl, fun j r u h1 => by simp at h1⟩
theorem RowsAre.one {r : List α} {u : RowW} (h1 : u.n = r.length) (h2 : Lst f w u.a u.c r) : RowsAre f w [u] [r] := by
  refine ⟨rfl, fun j q v e1 e2 => ?_⟩
  have hj : j = 0 := by
    have := (List.getElem?_eq_some_iff.1 e1).1
    simp at this; exact this
  subst hj
  simp at e1 e2
  subst e1 e2
  exact ⟨h1, h2⟩
theorem Tab.rows (h : Tab f w A t) : ∃ us, RowsAre f w us t ∧ Seq RowV w A us := by
  by_cases hn : 0 < t.length
  · obtain ⟨b, o, rfl, hb, hc⟩ := h hn
    have hex : ∀ j : Nat, ∃ u : RowW, ∀ r, t[j]? = some r → w.cell? ⟨b, o + j, none⟩ = some (RowV u) ∧ u.n = r.length ∧ Lst f w u.a u.c r := by
      intro j
      by_cases hj : j < t.length
      · obtain ⟨Ar, cr, h1, h2⟩ := hc j _ (List.getElem?_eq_getElem hj)
        refine ⟨⟨Ar, t[j].length, cr⟩, fun r hr => ?_⟩
        rw [List.getElem?_eq_getElem hj] at hr
        injection hr with hr
        subst hr
        exact ⟨h1, rfl, h2⟩
      · refine ⟨⟨none, 0, 0⟩, fun r hr => ?_⟩
        rw [List.getElem?_eq_none (by omega)] at hr
        cases hr
    obtain ⟨F, hF⟩ := Classical.axiomOfChoice hex
    refine ⟨(List.range t.length).map F, ⟨by simp, fun j r u h1 h2 => ?_⟩, fun _ => ⟨b, o, rfl, hb, fun j u h2 => ?_⟩⟩
    · have hj := (List.getElem?_eq_some_iff.1 h1).1
      simp [hj] at h2
      subst h2
      exact (hF j r h1).2
    · have hj : j < t.length := by
        have := (List.getElem?_eq_some_iff.1 h2).1
        simpa using this
      simp [hj] at h2
      subst h2
      exact (hF j _ (List.getElem?_eq_getElem hj)).1
  · have e : t = [] := List.eq_nil_of_length_eq_zero (by omega)
    subst e
    exact ⟨[], .nil_, Seq.nil_⟩
theorem Tab.of_rows (h : RowsAre f w us t) (hs : Seq RowV w A us) : Tab f w A t := fun hn => by
  have hl := h.1
  obtain ⟨b, o, e, hb, hc⟩ := hs (by omega)
  refine ⟨b, o, e, hb, fun j r hr => ?_⟩
  have hj := (List.getElem?_eq_some_iff.1 hr).1
  have hu : us[j]? = some us[j] := List.getElem?_eq_getElem (by omega)
  obtain ⟨h1, h2⟩ := h.2 j r _ hr hu
  have := hc j _ hu
  exact ⟨us[j].a, us[j].c, by rw [this, ← h1], h2⟩
/-- with its capacity -/
theorem Seq.lst {c : Nat} (hs : Seq RowV w A us) (h0 : 0 < us.length) (h1 : us.length ≤ c) (h2 : c ≤ maxLen) : Lst RowV w A c us :=
  ⟨hs, h1, h2, fun e => by obtain ⟨b, o, e2, _⟩ := hs h0; rw [e] at e2; cases e2⟩
end
theorem rowV_one (r : RowW) : (RowV r).oneCell' = true := rfl
end Go.Proofs.Ytncnghmadeghlaa
