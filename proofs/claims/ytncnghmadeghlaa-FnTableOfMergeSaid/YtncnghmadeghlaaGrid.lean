/- A table that is read, its addresses under names. -/
import Derived.Test.YtncnghmadeghlaaMkW
namespace Go.Proofs.Ytncnghmadeghlaa
open Go.RowKit
set_option linter.unusedVariables false
/-- the outer block, and for each row its block, its first place and its capacity -/
structure Grid {α : Type} (f : α → Value) (w : World) (b o : Nat) (rb ro rc : Nat → Nat) (h wd : Nat) (F : Nat → Nat → α) : Prop where
  lt : b < w.heap.size
  row : ∀ i, i < h → w.cell? ⟨b, o + i, none⟩ = some (.slice (some ⟨rb i, ro i, none⟩) wd (rc i))
  rlt : ∀ i, i < h → rb i < w.heap.size
  cell : ∀ i j, i < h → j < wd → w.cell? ⟨rb i, ro i + j, none⟩ = some (f (F i j))
  lst : ∀ i, i < h → Lst f w (some ⟨rb i, ro i, none⟩) (rc i) (mkL wd (F i))
section
variable {α : Type} {f : α → Value} {w w' : World} {h wd : Nat} {F : Nat → Nat → α} {b o : Nat} {rb ro rc : Nat → Nat}
theorem Grid.below (g : Grid f w b o rb ro rc h wd F) (hb : Below w.heap.size w w') : Grid f w' b o rb ro rc h wd F :=
  ⟨Nat.lt_of_lt_of_le g.lt hb.size, fun i hi => (hb.cell (p := ⟨b, o + i, none⟩) g.lt).trans (g.row i hi), fun i hi => Nat.lt_of_lt_of_le (g.rlt i hi) hb.size, fun i j hi hj => (hb.cell (p := ⟨rb i, ro i + j, none⟩) (g.rlt i hi)).trans (g.cell i j hi hj), fun i hi => (g.lst i hi).below hb⟩
theorem Grid.qu (g : Grid f w b o rb ro rc h wd F) (hq : Qu w w') : Grid f w' b o rb ro rc h wd F := g.below hq.below
theorem Tab.grid {A : Option Addr} (t : Tab f w A (mkT h wd F)) (hh : 0 < h) (hw : 0 < wd) : ∃ b o, A = some ⟨b, o, none⟩ ∧ ∃ rb ro rc, Grid f w b o rb ro rc h wd F := by
  obtain ⟨b, o, A0, c0, e, hb, -⟩ := t.mkrow hh
  refine ⟨b, o, e, ?_⟩
  have hex : ∀ i : Nat, ∃ p : Nat × Nat × Nat, i < h → w.cell? ⟨b, o + i, none⟩ = some (.slice (some ⟨p.1, p.2.1, none⟩) wd p.2.2) ∧ p.1 < w.heap.size ∧ (∀ j, j < wd → w.cell? ⟨p.1, p.2.1 + j, none⟩ = some (f (F i j))) ∧ Lst f w (some ⟨p.1, p.2.1, none⟩) p.2.2 (mkL wd (F i)) := by
    intro i
    by_cases hi : i < h
    · obtain ⟨b1, o1, A1, c1, e1, hb1, hc1, hL⟩ := t.mkrow hi
      rw [e] at e1
      injection e1 with e1
      injection e1 with e1 e2
      subst e1 e2
      obtain ⟨b2, o2, e2, hb2, hcell⟩ := hL.1 (by rw [mkL_len]; exact hw)
      subst e2
      exact ⟨(b2, o2, c1), fun _ => ⟨hc1, hb2, fun j hj => hcell j _ (mkL_get _ hj), hL⟩⟩
    · exact ⟨(0, 0, 0), fun hi' => absurd hi' hi⟩
  obtain ⟨p, hp⟩ := Classical.axiomOfChoice hex
  exact ⟨fun i => (p i).1, fun i => (p i).2.1, fun i => (p i).2.2, hb, fun i hi => (hp i hi).1, fun i hi => (hp i hi).2.1, fun i j hi hj => (hp i hi).2.2.1 j hj, fun i hi => (hp i hi).2.2.2⟩
end
end Go.Proofs.Ytncnghmadeghlaa
