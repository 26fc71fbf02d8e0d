/- A region that draws its order, whose operations read what no store of the region turns, but for stores in a forced order: one walk serves every order. -/
import Derived.Test.YthknlonelbfpaaaTailQ
namespace Go.Proofs.Ythknlonelbfpaaa
open Go.RowKit
set_option linter.unusedVariables false
section
variable {P : Program} {md : Region.Mode} {ops : Array Oper} {C : World → Prop} {Q : Exit → Act → World → Prop} {F : Fence} {m : Nat}
/-- operations that hand back a value and are no calls -/
def plainOp (o : Oper) : Bool := match o.op with | .move _ | .load _ _ | .indexAddr _ _ _ | .binOp _ _ _ _ _ => true | _ => false
theorem plain_value {o : Oper} {ρ : Operand → Value} {w w' : World} {x : Next} (h : plainOp o = true) (hr : (execOp ρ o).run P w = .ok x w') : ∃ v, x = .value v := by
  unfold plainOp at h
  unfold execOp at hr
  cases ho : o.op <;> rw [ho] at h hr <;> simp at h
  case move y =>
    simp at hr
    exact ⟨_, hr.1.symm⟩
  all_goals
    simp only [Sem.run_bind, Sem.run_pure] at hr
    generalize (Sem.run P _ w) = r at hr
    cases r with
    | ok v w1 =>
      simp at hr
      first | exact ⟨_, hr.1.symm⟩ | (split at hr <;> first | cases hr | (simp at hr; exact ⟨_, hr.1.symm⟩)) | (rename_i v; revert hr; generalize (Sem.run P _ w1) = r2; intro hr; cases r2 <;> simp at hr; exact ⟨_, hr.1.symm⟩)
    | halt y w1 => simp at hr
/-- one operation is carried out: what it yields, the world behind it -/
def opC (P : Program) (ops : Array Oper) (C : World → Prop) (i : Nat) (K : Act → World → Prop) (a : Act) (w : World) : Prop :=
  match ops[i]? with
  | none => False
  | some o => if Region.wanted o (yielded ops a.tmps) then (∃ u w', ((execOp a.eval o).run P w = .ok (.value u) w' ∨ ((execOp a.eval o).run P w = .ok .skip w' ∧ u = undef)) ∧ C w' ∧ K (a.put o.dst u) w') else K (a.put o.dst undef) w
def runC (P : Program) (md : Region.Mode) (ops : Array Oper) (C : World → Prop) (Q : Exit → Act → World → Prop) : Nat → Array Bool → Act → World → Prop
  | 0, listed, a, w => Region.ready md ops listed = [] ∧ Q .normal a w
  | f + 1, listed, a, w => Region.ready md ops listed ≠ [] ∧ ∀ i ∈ Region.ready md ops listed, opC P ops C i (runC P md ops C Q f (listed.setIfInBounds i true)) a w
theorem opC_in {i : Nat} {a : Act} {w : World} {K K' : Act → World → Prop} (hF : ∀ f, F.fn f) (ho : noDefer ops = true) (h : ∀ a w, K a w → K' a w) (hh : opC P ops C i K a w) : wpOpIn F m P ops Q i K' a w := by
  unfold opC at hh
  unfold wpOpIn
  cases hi : ops[i]? with
  | none => rw [hi] at hh; exact hh.elim
  | some o =>
    rw [hi] at hh
    simp only at hh ⊢
    by_cases hw : Region.wanted o (yielded ops a.tmps) = true
    · rw [if_pos hw] at hh ⊢
      obtain ⟨u, w', hr, -, hk⟩ := hh
      unfold Oper.wpIn
      refine ⟨fun f _ => hF f, ?_⟩
      rw [Oper.semAt_plain F _ o (noDefer_at ho hi)]
      rcases hr with hr | ⟨hr, rfl⟩
      · rw [hr]; exact h _ _ hk
      · rw [hr]; exact h _ _ hk
    · rw [if_neg hw] at hh ⊢
      exact ⟨fun f _ => hF f, h _ _ hh⟩
theorem runC_in (hF : ∀ f, F.fn f) (ho : noDefer ops = true) : ∀ (f : Nat) (listed : Array Bool) (a : Act) (w : World), runC P md ops C Q f listed a w → wpAnyIn F m P md ops Q f listed a w
  | 0, _, _, _, h => h
  | f + 1, listed, a, w, h => ⟨fun h0 => absurd h0 h.1, fun i hi => opC_in hF ho (fun a' w' h' => runC_in hF ho f _ a' w' h') (h.2 i hi)⟩
/-- an operation that reads may be taken first -/
theorem first_C {i : Nat} {oi : Oper} (hi : ops[i]? = some oi) (hsel : ∀ (j : Nat) (o : Oper) cs b, ops[j]? = some o → o.op ≠ .select cs b) :
    ∀ (f : Nat) (listed : Array Bool) (a : Act) (w : World) (v : Value), C w →
      (∀ j oj, ops[j]? = some oj → j ≠ i → listed.getD j true = false → (∀ e ∈ oj.after, Region.binds md e = true → e.on ≠ i) → oi.apart ops oj = true) →
      i ∈ Region.ready md ops listed → ((Region.wanted oi (yielded ops a.tmps) = true ∧ ∀ w, C w → (execOp a.eval oi).run P w = .ok (.value v) w) ∨ (Region.wanted oi (yielded ops a.tmps) = false ∧ v = undef)) →
      runC P md ops C Q f (listed.setIfInBounds i true) (a.put oi.dst v) w → runC P md ops C Q (f + 1) listed a w := by
  intro f
  induction f with
  | zero =>
    intro listed a w v hC hfree hr hy H
    refine ⟨fun h => (by rw [h] at hr; cases hr), fun j hj => ?_⟩
    by_cases hji : j = i
    · subst hji
      unfold opC
      simp only [hi]
      rcases hy with ⟨h1, h2⟩ | ⟨h1, rfl⟩
      · rw [if_pos h1]; exact ⟨v, w, .inl (h2 w hC), hC, H⟩
      · rw [if_neg (by rw [h1]; exact Bool.false_ne_true)]; exact H
    · have := ready_mono hj hji
      rw [H.1] at this
      cases this
  | succ f ih =>
    intro listed a w v hC hfree hr hy H
    refine ⟨fun h => (by rw [h] at hr; cases hr), fun j hj => ?_⟩
    by_cases hji : j = i
    · subst hji
      unfold opC
      simp only [hi]
      rcases hy with ⟨h1, h2⟩ | ⟨h1, rfl⟩
      · rw [if_pos h1]; exact ⟨v, w, .inl (h2 w hC), hC, H⟩
      · rw [if_neg (by rw [h1]; exact Bool.false_ne_true)]; exact H
    · have h1 := H.2 j (ready_mono hj hji)
      obtain ⟨hjun, oj, hoj, hall⟩ := mem_ready.1 hj
      have hnot : ∀ e ∈ oj.after, Region.binds md e = true → e.on ≠ i := fun e he hb heq => by
        have h1 := hall e he hb
        have h0 := (mem_ready.1 hr).1
        rw [heq] at h1
        rcases Nat.lt_or_ge i listed.size with h' | h'
        · simp [h'] at h0 h1; rw [h0] at h1; cases h1
        · simp [Array.getElem?_eq_none h'] at h1
      obtain ⟨a1, a2, a3⟩ := Oper.apart_spec (hfree j oj hoj hji hjun hnot)
      have hfree' : ∀ k ok, ops[k]? = some ok → k ≠ i → (listed.setIfInBounds j true).getD k true = false → (∀ e ∈ ok.after, Region.binds md e = true → e.on ≠ i) → oi.apart ops ok = true := fun k ok hk hki hun hno => by
        refine hfree k ok hk hki ?_ hno
        by_cases hjk : j = k
        · subst hjk; exact hjun
        · rw [getD_set_ne true hjk] at hun; exact hun
      have hy' : ∀ u, ((Region.wanted oi (yielded ops (a.put oj.dst u).tmps) = true ∧ ∀ w, C w → (execOp (a.put oj.dst u).eval oi).run P w = .ok (.value v) w) ∨ (Region.wanted oi (yielded ops (a.put oj.dst u).tmps) = false ∧ v = undef)) := fun u => by
        rw [wanted_put oi a oj.dst u a3, execOp_put oi (fun cs b => hsel i oi cs b hi) a oj.dst u a3]
        exact hy
      unfold opC at h1 ⊢
      simp only [hoj] at h1 ⊢
      rw [wanted_put oj a oi.dst v a1] at h1
      by_cases hw : Region.wanted oj (yielded ops a.tmps) = true
      · rw [if_pos hw] at h1 ⊢
        obtain ⟨u, w', hrun, hC', hk⟩ := h1
        rw [execOp_put oj (fun cs b => hsel j oj cs b hoj) a oi.dst v a1] at hrun
        refine ⟨u, w', hrun, hC', ih (listed.setIfInBounds j true) (a.put oj.dst u) w' v hC' hfree' (ready_mono hr (Ne.symm hji)) (hy' u) ?_⟩
        rw [Array.setIfInBounds_comm _ _ hji, ← Act.put_comm a v u a2]
        exact hk
      · rw [if_neg hw] at h1 ⊢
        refine ih (listed.setIfInBounds j true) (a.put oj.dst undef) w v hC hfree' (ready_mono hr (Ne.symm hji)) (hy' undef) ?_
        rw [Array.setIfInBounds_comm _ _ hji, ← Act.put_comm a v undef a2]
        exact h1
/-- the stores, in their forced order -/
def tailC (P : Program) (ops : Array Oper) (C : World → Prop) (Q : Exit → Act → World → Prop) : List Nat → Act → World → Prop
  | [], a, w => Q .normal a w
  | i :: tl, a, w => opC P ops C i (tailC P ops C Q tl) a w
def seqT (md : Region.Mode) (ops : Array Oper) : List Nat → Array Bool → Bool
  | [], listed => (Region.ready md ops listed).isEmpty
  | i :: tl, listed => decide (Region.ready md ops listed = [i]) && seqT md ops tl (listed.setIfInBounds i true)
def permB (md : Region.Mode) (ops : Array Oper) (tl : List Nat) : List Nat → Array Bool → Bool
  | [], listed => seqT md ops tl listed
  | i :: idx, listed => ((ops[i]?).map plainOp == some true) && (Region.ready md ops listed).contains i && Region.free md ops listed i && permB md ops tl idx (listed.setIfInBounds i true)
theorem opC_mono {i : Nat} {a : Act} {w : World} {K K' : Act → World → Prop} (h : ∀ a w, K a w → K' a w) (hh : opC P ops C i K a w) : opC P ops C i K' a w := by
  unfold opC at *
  cases hi : ops[i]? with
  | none => rw [hi] at hh; exact hh.elim
  | some o =>
    rw [hi] at hh
    simp only at hh ⊢
    split
    · next hw =>
      rw [if_pos hw] at hh
      obtain ⟨u, w', h1, h2, h3⟩ := hh
      exact ⟨u, w', h1, h2, h _ _ h3⟩
    · next hw =>
      rw [if_neg hw] at hh
      exact h _ _ hh
theorem tail_run : ∀ (tl : List Nat) (listed : Array Bool) (a : Act) (w : World), seqT md ops tl listed = true → tailC P ops C Q tl a w → runC P md ops C Q tl.length listed a w
  | [], listed, a, w, hB, h => ⟨by simpa [seqT] using hB, h⟩
  | i :: tl, listed, a, w, hB, h => by
    simp only [seqT, Bool.and_eq_true, decide_eq_true_eq] at hB
    refine ⟨by rw [hB.1]; simp, fun j hj => ?_⟩
    rw [hB.1] at hj
    obtain rfl : j = i := by simpa using hj
    exact opC_mono (fun a' w' h' => tail_run tl _ a' w' hB.2 h') h
def pickO (ops : Array Oper) : List Nat → List Oper
  | [] => []
  | i :: l => (ops[i]?).elim (pickO ops l) (fun x => x :: pickO ops l)
theorem pickO_nil : pickO ops [] = [] := rfl
theorem pickO_cons (i : Nat) (l : List Nat) : pickO ops (i :: l) = (ops[i]?).elim (pickO ops l) (fun x => x :: pickO ops l) := rfl
theorem perm_run (hs : Region.noSelect ops = true) (tl : List Nat) (w : World) (hC : C w) : ∀ (idx : List Nat) (listed : Array Bool) (a : Act), permB md ops tl idx listed = true →
    wpQuiet P ops C (fun a' => tailC P ops C Q tl a' w) (pickO ops idx) a → runC P md ops C Q (idx.length + tl.length) listed a w
  | [], listed, a, hB, h => by
    rw [List.length_nil, Nat.zero_add]
    exact tail_run tl listed a w hB h
  | i :: idx, listed, a, hB, h => by
    simp only [permB, Bool.and_eq_true] at hB
    obtain ⟨⟨⟨hp, hr⟩, hf⟩, hB'⟩ := hB
    cases hi : ops[i]? with
    | none => rw [hi] at hp; simp at hp
    | some o =>
      rw [hi] at hp
      have hp' : plainOp o = true := by simpa using hp
      rw [pickO_cons, hi, Option.elim_some] at h
      rw [List.length_cons, show idx.length + 1 + tl.length = (idx.length + tl.length) + 1 by omega]
      unfold wpQuiet at h
      by_cases hw : Region.wanted o (yielded ops a.tmps) = true
      · rw [if_pos hw] at h
        obtain ⟨v, h1, h2⟩ := h
        refine first_C hi (Region.noSelect_spec hs) _ listed a w v hC (Region.free_spec hi hf) (by simpa using hr) (.inl ⟨hw, fun w' hw' => ?_⟩) (perm_run hs tl w hC idx _ _ hB' h2)
        have h3 := h1 w' hw'
        unfold Oper.quietAt at h3
        cases hx : (execOp a.eval o).run P w' with
        | ok x w1 =>
          obtain ⟨u, rfl⟩ := plain_value hp' hx
          rw [hx] at h3
          simp only [Oper.quietUpon] at h3
          rw [h3.1, h3.2]
        | halt x w1 => rw [hx] at h3; simp only [Oper.quietUpon] at h3
      · rw [if_neg hw] at h
        exact first_C hi (Region.noSelect_spec hs) _ listed a w undef hC (Region.free_spec hi hf) (by simpa using hr) (.inr ⟨by simpa using hw, rfl⟩) (perm_run hs tl w hC idx _ _ hB' h)
theorem region_perm {id : Nat} {a : Act} {w : World} (idx tl : List Nat) (hm : P.follows .mixedOrders = true) (hF : ∀ f, F.fn f) (ho : noDefer ops = true) (hs : Region.noSelect ops = true) (hn : idx.length + tl.length = ops.size) (hB : permB .any ops tl idx (Array.replicate ops.size false) = true) (hC : C w.drew)
    (h : wpQuiet P ops C (fun a' => tailC P ops C Q tl a' w.drew) (pickO ops idx) a) : (Code.region id ops true).wpIn F m P Q a w := by
  refine wpIn_region_any hm (runC_in (C := C) hF ho _ _ _ _ ?_)
  have := perm_run (Q := Q) hs tl w.drew hC idx _ _ hB h
  rw [hn] at this
  exact this
end
end Go.Proofs.Ythknlonelbfpaaa
