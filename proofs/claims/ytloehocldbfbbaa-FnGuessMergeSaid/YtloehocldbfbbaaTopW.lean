/- What PartsTop answers. -/
import Derived.Test.YtloehocldbfbbaaTop
import Derived.Test.YtloehocldbfbbaaFewW
import Derived.Test.YtloehocldbfbbaaLst
import Derived.WalkSpells
import Derived.WalkLawsBesides
namespace Go.Proofs.Ytloehocldbfbbaa
/-- what PartsTop answers -/
def partsTop (xs : List Int) (n : Int) : Int := if partsValid xs = true ∧ 0 ≤ n then top xs n.toNat else -1
theorem partsTop_no {xs : List Int} {n : Int} (h : ¬ (partsValid xs = true ∧ 0 ≤ n)) : partsTop xs n = -1 := if_neg h
theorem partsTop_yes {xs : List Int} {n : Int} (h : partsValid xs = true) (hn : 0 ≤ n) : partsTop xs n = top xs n.toNat := if_pos ⟨h, hn⟩
theorem partsTop_nat {xs : List Int} {n : Nat} (h : partsValid xs = true) : partsTop xs n = top xs n := by rw [partsTop_yes h (by omega)]; rfl
end Go.Proofs.Ytloehocldbfbbaa
