/- A store of a number as an equation. -/
import Derived.Test.YthknlonelbfpaaaPerm
import Derived.Test.YthknlonelbfpaaaInfo
import Derived.WalkKit
namespace Go.Proofs.Ythknlonelbfpaaa
open Go.RowKit
set_option linter.unusedVariables false
theorem exec_store_int {o : Oper} {x y : Operand} {ρ : Operand → Value} {w : World} {p : Addr} {z : Int} {v0 : Value} (h : o.op = .store 3 x y) (ha : ρ x = .pointer (some p)) (hy : ρ y = .int .i64 z) (hc : w.cell? p = some v0) (hf : w.frozen? p = false) :
    (execOp ρ o).run Try.prog w = .ok .skip (w.setCell p (.int .i64 z)) := by
  unfold execOp
  rw [h]
  simp [go_sem, ha, hy, hc, hf]
theorem exec_index_int {o : Oper} {x y : Operand} {ρ : Operand → Value} {w : World} {b n c k : Nat} (h : o.op = .indexAddr 28 x y) (ha : ρ x = .slice (some ⟨b, 0, none⟩) n c) (hy : ρ y = .int .i64 (k : Int)) (hk : k < n) :
    (execOp ρ o).run Try.prog w = .ok (.value (.pointer (some ⟨b, k, none⟩))) w := by
  have hk2 : (k : Int) < (n : Int) := by omega
  unfold execOp
  rw [h]
  simp [go_sem, ha, hy, hk2]
end Go.Proofs.Ythknlonelbfpaaa
