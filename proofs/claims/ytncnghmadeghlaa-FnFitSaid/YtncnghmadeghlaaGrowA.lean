/- A row of a table of one's own that grows by append. -/
import Derived.Test.YtncnghmadeghlaaGrow
namespace Go.Proofs.Ytncnghmadeghlaa
open Go.RowKit
set_option linter.unusedVariables false
theorem Grow.app {α : Type} {f : α → Value} {T E : TypeId} {lo : Nat} {w w2 : World} {vs : Nat → Value} {t : List (List α)} {g n c j : Nat} {r r' : List α} {u : Value} {m : Nat} (h : Grow f T E lo w (.slice (some ⟨g, 0, none⟩) n c) vs t) (hr : t[j]? = some r)
    (hm : r'.length = m) (ho : w2.ownsRow lo E 1 u m (r'.map f)) (hg : w.grownBy w2 (vs j).ownBlock) (hn : ∀ b, u.ownBlock = some b → (vs j).ownBlock = some b ∨ w.heap.size ≤ b) :
    Grow f T E lo (w2.setCell ⟨g, j, none⟩ u) (.slice (some ⟨g, 0, none⟩) n c) (up1 vs j u) (t.set j r') := by
  have hj := (List.getElem?_eq_some_iff.1 hr).1
  have hrow := h.row j r hr
  have hgg := h.outer.lt g rfl
  have hrb : ∀ b, (vs j).ownBlock = some b → b < w.heap.size ∧ b ≠ g := fun b e => ⟨(hrow.lt b e).2, fun e2 => h.top j b hj e (by rw [e2]; rfl)⟩
  have hu : ∀ b, u.ownBlock = some b → b ≠ g := fun b e => by
    rcases hn b e with h' | h'
    · exact (hrb b h').2
    · omega
  have hout6 := h.outer.kept hg (.inr (fun e => (hrb g e.symm).2 rfl))
  have hlt : ∀ k b, k < t.length → (vs k).ownBlock = some b → b < w.heap.size := fun k b hk e => ((h.row k _ (List.getElem?_eq_getElem hk)).lt b e).2
  have hne : ∀ k, k ≠ j → up1 vs j u k = vs k := fun k hk => by simp [up1, hk]
  have hat : up1 vs j u j = u := by simp [up1]
  refine ⟨?_, fun k q hq => ?_, fun k b hk hb => ?_, fun a k b ha hk hak hba hbk => ?_⟩
  · have hb := hout6.2
    rcases hb with ⟨h1, h2⟩ | ⟨g', cap, cur, h1, h2, h3, h4, h5, h6, h7⟩
    · omega
    · injection h1 with h1a h1b h1c
      injection h1a with h1a
      injection h1a with h1a
      subst h1a h1c
      have ho' : w2.ownsRow lo T 1 (.slice (some ⟨g, 0, none⟩) t.length c) t.length (mkL t.length vs) := ⟨hout6.1, .inr ⟨g, c, cur, rfl, h2, h3, h4, h5, h6, h7⟩⟩
      have := (ho'.stored j u).1
      rw [mkL_set] at this
      rw [List.length_set]
      subst h1b
      exact this
  · rw [List.getElem?_set] at hq
    by_cases hkj : j = k
    · subst hkj
      rw [if_pos rfl, if_pos hj] at hq
      injection hq with hq
      subst hq
      rw [hat, hm]
      exact own_keep ho fun b e => Below.heap_setCell _ _ _ b (hu b e)
    · rw [if_neg hkj] at hq
      rw [hne k (fun e => hkj e.symm)]
      have hk := (List.getElem?_eq_some_iff.1 hq).1
      have h6 := (h.row k q hq).kept hg (by
        cases hub : (vs k).ownBlock with
        | none => exact .inl rfl
        | some b => exact .inr fun e => h.far j k b hj hk hkj e.symm hub)
      exact own_keep h6 fun b e => Below.heap_setCell _ _ _ b (fun e2 => h.top k b hk e (by rw [show b = g from e2]; rfl))
  · have hk' : k < t.length := by simpa using hk
    intro e
    have e' : g = b := by simpa [Value.ownBlock] using e
    by_cases hkj : k = j
    · subst hkj; rw [hat] at hb; exact hu b hb e'.symm
    · rw [hne k hkj] at hb; exact h.top k b hk' hb (by rw [← e']; rfl)
  · have ha' : a < t.length := by simpa using ha
    have hk' : k < t.length := by simpa using hk
    by_cases haj : a = j
    · subst haj
      rw [hat] at hba
      rw [hne k (fun e => hak e.symm)] at hbk
      rcases hn b hba with h' | h'
      · exact h.far a k b ha' hk' hak h' hbk
      · have := hlt k b hk' hbk; omega
    · rw [hne a haj] at hba
      by_cases hkj : k = j
      · subst hkj
        rw [hat] at hbk
        rcases hn b hbk with h' | h'
        · exact h.far a k b ha' hk' hak hba h'
        · have := hlt a b ha' hba; omega
      · rw [hne k hkj] at hbk
        exact h.far a k b ha' hk' hak hba hbk
end Go.Proofs.Ytncnghmadeghlaa
