/- Steps of a region that draws its order: guarded calls, calls with two arguments. -/
import Derived.Test.YtncnghmadeghlaaStepP
namespace Go.Proofs.Ytncnghmadeghlaa
open Go.RowKit
set_option linter.unusedVariables false
section
variable {ops : Array Oper} {o : Oper} {a : Act} {K : Act → World → Prop} {Q : Exit → Act → World → Prop} {F : Prop}
/-- a call of a Go function by its contract, guarded -/
theorem step_callG {P : Program} {w : World} (hw : Region.wanted o (yielded ops a.tmps) = true) (f : FuncId) (args : Array Value) (hrun : (execOp a.eval o).run P w = .ok (.enter f args) w) (R : Ending → World → Prop) (hc : Calls P f args w R)
    (h : ∀ e w', R e w' → ∃ v, e = .returned v ∧ K (a.put o.dst v) w') : if Region.wanted o (yielded ops a.tmps) = true then Oper.wp P o a w K Q else F := by
  rw [if_pos hw]
  unfold Oper.wp
  rw [hrun, Oper.upon_enter]
  refine hc.mono fun e w' hh => ?_
  obtain ⟨v, rfl, hk⟩ := h e w' hh
  exact hk
/-- with one argument, guarded -/
theorem step_call1g {P : Program} {w : World} (hw : Region.wanted o (yielded ops a.tmps) = true) (f : FuncId) (x : Operand) (v : Value) (ts : Array TypeId) (ho : o.op = .call { callee := .value (.func f), args := #[x], argTypes := ts }) (hx : a.eval x = v) (hf : (callFunc f #[v]).run P w = .ok (.enter f #[v]) w) (R : Ending → World → Prop) (hc : Calls P f #[v] w R)
    (h : ∀ e w', R e w' → ∃ v, e = .returned v ∧ K (a.put o.dst v) w') : if Region.wanted o (yielded ops a.tmps) = true then Oper.wp P o a w K Q else F :=
  step_callG hw f #[v] (by
    unfold execOp
    subst hx
    cases x <;> (simp [ho, resolve, invoke, go_sem]; simpa [Act.eval, go_sem] using hf)) R hc h
/-- with two arguments -/
theorem step_call2 {P : Program} {w : World} (hw : Region.wanted o (yielded ops a.tmps) = true) (f : FuncId) (x y : Nat) (v u : Value) (ts : Array TypeId) (ho : o.op = .call { callee := .value (.func f), args := #[.tmp x, .tmp y], argTypes := ts }) (hx : a.eval (.tmp x) = v) (hy : a.eval (.tmp y) = u) (hf : (callFunc f #[v, u]).run P w = .ok (.enter f #[v, u]) w) (R : Ending → World → Prop) (hc : Calls P f #[v, u] w R)
    (h : ∀ e w', R e w' → ∃ v, e = .returned v ∧ K (a.put o.dst v) w') : if Region.wanted o (yielded ops a.tmps) = true then Oper.wp P o a w K Q else F :=
  step_callG hw f #[v, u] (by
    unfold execOp
    subst hx hy
    simp [ho, resolve, invoke, go_sem]
    simpa [Act.eval, go_sem] using hf) R hc h
end
theorem call_same (w : World) (u v : Value) : (callFunc 29 #[u, v]).run Try.prog w = .ok (.enter 29 #[u, v]) w := by kernel_rfl
theorem call_sum (w : World) (u : Value) : (callFunc 33 #[u]).run Try.prog w = .ok (.enter 33 #[u]) w := by kernel_rfl
theorem own_lit1 (w : World) (t : TypeId) (v : Value) : (w.alloc (.cells #[v] t)).ownsRow w.heap.size t 1 (.slice (some ⟨w.heap.size, 0, none⟩) 1 1) 1 [v] :=
  ⟨rfl, .inr ⟨w.heap.size, 1, #[v], rfl, Nat.le_refl _, Deep.blk_alloc_new _ _, Nat.le_refl _, by unfold maxLen; omega, rfl, rfl⟩⟩
end Go.Proofs.Ytncnghmadeghlaa
