/- Steps of a region that draws its order: append of persons, a call by its contract. -/
import Derived.Test.YtncnghmadeghlaaOwnP
import Derived.Test.YtncnghmadeghlaaDPeo
import Derived.Deep.RegionLaw
namespace Go.Proofs.Ytncnghmadeghlaa
open Go.RowKit
set_option linter.unusedVariables false
section
variable {ops : Array Oper} {o : Oper} {a : Act} {K : Act → World → Prop} {Q : Exit → Act → World → Prop} {F : Prop}
/-- a call of a Go function by its contract -/
theorem step_callR {P : Program} {w : World} (hgd : o.guard = none) (f : FuncId) (args : Array Value) (hrun : (execOp a.eval o).run P w = .ok (.enter f args) w) (R : Ending → World → Prop) (hc : Calls P f args w R)
    (h : ∀ e w', R e w' → ∃ v, e = .returned v ∧ K (a.put o.dst v) w') : if Region.wanted o (yielded ops a.tmps) = true then Oper.wp P o a w K Q else F := by
  have hw : Region.wanted o (yielded ops a.tmps) = true := by simp [Region.wanted, hgd]
  rw [if_pos hw]
  unfold Oper.wp
  rw [hrun, Oper.upon_enter]
  refine hc.mono fun e w' hh => ?_
  obtain ⟨v, rfl, hk⟩ := h e w' hh
  exact hk
/-- a call with one argument by its contract -/
theorem step_call1 {P : Program} {w : World} (hgd : o.guard = none) (f : FuncId) (x : Operand) (v : Value) (ts : Array TypeId) (ho : o.op = .call { callee := .value (.func f), args := #[x], argTypes := ts }) (hx : a.eval x = v) (hf : (callFunc f #[v]).run P w = .ok (.enter f #[v]) w) (R : Ending → World → Prop) (hc : Calls P f #[v] w R)
    (h : ∀ e w', R e w' → ∃ v, e = .returned v ∧ K (a.put o.dst v) w') : if Region.wanted o (yielded ops a.tmps) = true then Oper.wp P o a w K Q else F :=
  step_callR hgd f #[v] (by
    unfold execOp
    subst hx
    cases x <;> (simp [ho, resolve, invoke, go_sem]; simpa [Act.eval, go_sem] using hf)) R hc h
/-- append(own, ys...) -/
theorem stepP (hgd : o.guard = none) (s y : Operand) (t : TypeId)
    (ho : o.op = .call { callee := .builtin .append, args := #[s, y], argTypes := #[t, t] })
    (w : World) (base : Nat) (ht : Try.prog.underlying t = some (.slice TP))
    (A : Option Addr) (n c : Nat) (xs : List Per) (hs : a.eval s = .slice A n c) (hown : OwnP w base A n c xs)
    (A' : Option Addr) (m c' : Nat) (ys : List Per) (hny : ys.length = m) (hx : a.eval y = .slice A' m c') (hl : SeqP w A' ys) (hc' : A' = none → c' = 0) (hn : n ≤ 1048576) (hm : m ≤ 1048576) (hbase : base ≤ w.heap.size)
    (h : ∀ A2 c2 w', OwnP w' base A2 (n + m) c2 (xs ++ ys) → w.grownBy w' (Value.slice A n c).ownBlock → (∀ b, (Value.slice A2 (n + m) c2).ownBlock = some b → (Value.slice A n c).ownBlock = some b ∨ w.heap.size ≤ b) → K (a.put o.dst (.slice A2 (n + m) c2)) w') :
    if Region.wanted o (yielded ops a.tmps) = true then Oper.wp Try.prog o a w K Q else F := by
  have hw : Region.wanted o (yielded ops a.tmps) = true := by simp [Region.wanted, hgd]
  rw [if_pos hw]
  obtain ⟨i, hi, hz, hsz, hb⟩ := (Option.map_eq_some_iff.1 nfoP).imp fun i h => (⟨h.1, by simpa using h.2⟩ : _ ∧ _ ∧ _ ∧ _)
  subst hny
  rcases A' with _ | ad
  · have hys : ys = [] := by
      rcases ys with _ | ⟨p, ps⟩
      · rfl
      · obtain ⟨b, o, e, -⟩ := hl (by simp)
        cases e
    subst hys
    have hcz := hc' rfl
    subst hcz
    have hrun := run_append_owned_none (P := Try.prog) (w := w) base t o.type TP i 4 ht hi _ _ _ hown.1
    unfold Oper.wp execOp
    simp only [ho, resolve, invoke, builtin, Sem.run_bind, Sem.run_pure, Result.andThen_ok, List.map_toArray, List.map_cons, List.map_nil, hs, hx, List.length_nil, hrun]
    have := h A c w (by simpa using hown) ⟨rfl, rfl, rfl, Nat.le_refl _, fun _ _ _ => rfl⟩ (fun b hb => .inl (by simpa using hb))
    exact this
  · obtain ⟨v', w', hrun, h2, h3, _, h5⟩ := run_append_own_at (P := Try.prog) w base t o.type TP i _ 4 32 ht hi hz hsz hb (by rfl) (by decide) (.slice A n c) n (flatP xs) hown.1 ad ys.length c' (flatP ys) (flatP_len ys) (by
      intro j u hu
      have hpos : 0 < ys.length := by
        have := (List.getElem?_eq_some_iff.1 hu).1
        rw [flatP_len] at this
        omega
      obtain ⟨b, o', e, hlt, hcs⟩ := hl hpos
      injection e with e
      subst e
      exact seqP_cells hcs j u hu) (flatP_one ys) (by unfold maxLen; omega) (by omega) hbase
    unfold Oper.wp execOp
    simp only [ho, resolve, invoke, builtin, Sem.run_bind, Sem.run_pure, Result.andThen_ok, List.map_toArray, List.map_cons, List.map_nil, hs, hx, hrun]
    obtain ⟨A2, c2, rfl, _⟩ := own_slice h2
    refine h A2 c2 w' ⟨by rw [flatP_app]; exact h2, by simp [hown.2]⟩ h3 fun b hb => ?_
    rcases h5 with h5 | h5
    · rw [h5] at hb; exact .inl hb
    · rw [h5] at hb
      injection hb with hb
      exact .inr (by omega)
end
theorem ownP_nil2 (V : World) (b : Obj) : OwnP ((V.alloc b).alloc (.cells #[] TP)).drew V.heap.size (some ⟨V.heap.size + 1, 0, none⟩) 0 0 [] := by
  have h := (ownP_nil (V.alloc b).drew).lower (lo' := V.heap.size) (by simp)
  have e : (V.alloc b).drew.heap.size = V.heap.size + 1 := by simp
  rw [e] at h
  exact h
theorem call_tof (w : World) (v : Value) : (callFunc 18 #[v]).run Try.prog w = .ok (.enter 18 #[v]) w := by kernel_rfl
theorem seqP_one (w : World) (a j s y : Int) : SeqP (w.alloc (.cells #[.int .i64 a, .int .i64 j, .int .i64 s, .int .i64 y] TP)) (some ⟨w.heap.size, 0, none⟩) [⟨a, j, s, y⟩] := fun _ => by
  have hB := Blk.new w TP #[.int .i64 a, .int .i64 j, .int .i64 s, .int .i64 y]
  refine ⟨w.heap.size, 0, rfl, by simp, fun i p hp => ?_⟩
  have hi : i = 0 := by have := (List.getElem?_eq_some_iff.1 hp).1; simp at this; exact this
  subst hi
  simp at hp
  subst hp
  exact ⟨by rw [hB.cell]; rfl, by rw [hB.cell]; rfl, by rw [hB.cell]; rfl, by rw [hB.cell]; rfl⟩
theorem seqP_grown1 {w w' : World} {b o : Nat} {ps : List Per} {row : Option Nat} (h : SeqP w (some ⟨b, o, none⟩) ps) (hg : w.grownBy w' row) (hne : some b ≠ row) : SeqP w' (some ⟨b, o, none⟩) ps := fun hn => by
  obtain ⟨b', o', e, hl, hc⟩ := h hn
  injection e with e
  injection e with e1 e2
  subst e1 e2
  have hk : ∀ k, w'.cell? ⟨b, k, none⟩ = w.cell? ⟨b, k, none⟩ := fun k => World.cell?_of_block (w := w) (hg.block b hl hne)
  exact ⟨b, o, rfl, Nat.lt_of_lt_of_le hl hg.size, fun i p hp => by
    obtain ⟨c0, c1, c2, c3⟩ := hc i p hp
    exact ⟨(hk _).trans c0, (hk _).trans c1, (hk _).trans c2, (hk _).trans c3⟩⟩
end Go.Proofs.Ytncnghmadeghlaa
