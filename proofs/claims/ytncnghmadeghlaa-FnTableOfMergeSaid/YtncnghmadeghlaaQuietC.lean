/- A class of worlds for a region that draws its order and holds calls that make memory: those that leave old blocks alone. -/
import Derived.Test.YtncnghmadeghlaaMem
import Derived.Deep.QuietTactic
import Derived.BigQuiet
namespace Go.Proofs.Ytncnghmadeghlaa
open Go.RowKit
theorem class_of (B : Nat) (w : World) : ∃ (I : Type) (f : I → World), Nonempty I ∧ ∀ W, (∃ i, W = f i) ↔ Below B w W :=
  ⟨{ W // Below B w W }, Subtype.val, ⟨⟨w, Below.refl _ _⟩⟩, fun W => ⟨fun ⟨i, e⟩ => e ▸ i.2, fun h => ⟨⟨W, h⟩, rfl⟩⟩⟩
/-- a callee's contract, met in a world of the class -/
theorem class_call {P : Program} {f : FuncId} {args : Array Value} {B : Nat} {w : World} {I : Type} {fI : I → World} (hI : ∀ W, (∃ i, W = fI i) ↔ Below B w W) (hB : B ≤ w.heap.size) {v : Value} (i : I)
    (h : Below B w (fI i) → Calls P f args (fI i) fun e w' => e = .returned v ∧ Below (fI i).heap.size (fI i) w') : Calls P f args (fI i) fun e w' => e = .returned v ∧ ∃ j, w' = fI j := by
  have hb : Below B w (fI i) := (hI _).1 ⟨i, rfl⟩
  exact (h hb).mono fun e w' ⟨h1, h2⟩ => ⟨h1, (hI w').2 (hb.trans (h2.mono (Nat.le_trans hB hb.size)))⟩
end Go.Proofs.Ytncnghmadeghlaa
