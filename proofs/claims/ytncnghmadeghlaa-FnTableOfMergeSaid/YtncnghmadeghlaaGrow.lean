/- A table of one's own that grows by append. -/
import Derived.Test.YtncnghmadeghlaaMkW
namespace Go.Proofs.Ytncnghmadeghlaa
open Go.RowKit
set_option linter.unusedVariables false

/-- a table whose outer list v was made by appends -/
structure Grow {α : Type} (f : α → Value) (T E : TypeId) (lo : Nat) (w : World) (v : Value) (vs : Nat → Value) (t : List (List α)) : Prop where
  outer : w.ownsRow lo T 1 v t.length (mkL t.length vs)
  row : ∀ j r, t[j]? = some r → w.ownsRow lo E 1 (vs j) r.length (r.map f)
  top : ∀ j b, j < t.length → (vs j).ownBlock = some b → v.ownBlock ≠ some b
  far : ∀ i j b, i < t.length → j < t.length → i ≠ j → (vs i).ownBlock = some b → (vs j).ownBlock ≠ some b
section
variable {α : Type} {f : α → Value} {T E : TypeId} {lo : Nat} {w w' : World} {v v' : Value} {vs : Nat → Value} {t : List (List α)}
theorem Grow.start (w : World) (T E : TypeId) (vs : Nat → Value) : Grow f T E w.heap.size (w.alloc (.cells #[] T)) (.slice (some ⟨w.heap.size, 0, none⟩) 0 0) vs ([] : List (List α)) where
  outer := own_empty w T
  row j r h := by simp at h
  top j b h := by simp at h
  far i j b h := by simp at h
theorem Grow.below (h : Grow f T E lo w v vs t) (hb : Below w.heap.size w w') : Grow f T E lo w' v vs t where
  outer := own_below h.outer hb
  row j r hr := own_below (h.row j r hr) hb
  top := h.top
  far := h.far
theorem Grow.kept (h : Grow f T E lo w v vs t) {g : Nat} (hg : w.grownBy w' (some g)) (hl : g < lo) : Grow f T E lo w' v vs t where
  outer := h.outer.kept hg (.inr fun e => by have := (h.outer.lt _ e).1; omega)
  row j r hr := (h.row j r hr).kept hg (.inr fun e => by have := ((h.row j r hr).lt _ e).1; omega)
  top := h.top
  far := h.far
/-- one more row, made since -/
theorem Grow.push {w0 : World} {u : Value} {r : List α} (h : Grow f T E lo w0 v vs t) (hb : Below w0.heap.size w0 w) (ho : w.ownsRow w0.heap.size E 1 u r.length (r.map f)) (hlo : lo ≤ w0.heap.size)
    (hv : w'.ownsRow lo T 1 v' (t.length + 1) (mkL t.length vs ++ [u])) (hg : w.grownBy w' v.ownBlock) (hn : ∀ b, v'.ownBlock = some b → v.ownBlock = some b ∨ w.heap.size ≤ b) :
    Grow f T E lo w' v' (up1 vs t.length u) (t ++ [r]) := by
  have hsz := hb.size
  have hlt : ∀ j b, j < t.length → (vs j).ownBlock = some b → b < w0.heap.size := fun j b hj e => ((h.row j _ (List.getElem?_eq_getElem hj)).lt b e).2
  have hult : ∀ b, u.ownBlock = some b → w0.heap.size ≤ b ∧ b < w.heap.size := fun b e => ho.lt b e
  have hvlt : ∀ b, v.ownBlock = some b → b < w0.heap.size := fun b e => (h.outer.lt b e).2
  have hne : ∀ j, j < t.length → up1 vs t.length u j = vs j := fun j hj => by simp [up1, show j ≠ t.length by omega]
  have hat : up1 vs t.length u t.length = u := by simp [up1]
  refine ⟨?_, ?_, ?_, ?_⟩
  · have e : mkL (t ++ [r]).length (up1 vs t.length u) = mkL t.length vs ++ [u] := by
      rw [show (t ++ [r]).length = t.length + 1 by simp, mkL_succ, hat, mkL_ext fun i hi => hne i hi]
    rw [e, show (t ++ [r]).length = t.length + 1 by simp]
    exact hv
  · intro j q hq
    by_cases hj : j < t.length
    · rw [List.getElem?_append_left hj] at hq
      rw [hne j hj]
      have h1 := own_below (h.row j q hq) hb
      refine h1.kept hg ?_
      cases hub : (vs j).ownBlock with
      | none => exact .inl rfl
      | some g => exact .inr fun e => h.top j g hj hub e.symm
    · have hj' : j = t.length := by
        have := (List.getElem?_eq_some_iff.1 hq).1
        simp at this; omega
      subst hj'
      rw [List.getElem?_append_right (Nat.le_refl _)] at hq
      simp at hq
      subst hq
      rw [hat]
      refine (own_lower ho hlo).kept hg ?_
      cases hub : u.ownBlock with
      | none => exact .inl rfl
      | some g => exact .inr fun e => by have := (hult g hub).1; have := hvlt g e.symm; omega
  · intro j b hj hb' hvb
    have hj' : j < t.length + 1 := by simpa using hj
    rcases hn b hvb with h1 | h1
    · by_cases hjt : j < t.length
      · rw [hne j hjt] at hb'
        exact h.top j b hjt hb' h1
      · rw [show j = t.length by omega, hat] at hb'
        have := (hult b hb').1; have := hvlt b h1; omega
    · by_cases hjt : j < t.length
      · rw [hne j hjt] at hb'
        have := hlt j b hjt hb'; omega
      · rw [show j = t.length by omega, hat] at hb'
        have := (hult b hb').2; omega
  · intro i j b hi hj hij hbi hbj
    have hi' : i < t.length + 1 := by simpa using hi
    have hj' : j < t.length + 1 := by simpa using hj
    by_cases hit : i < t.length
    · rw [hne i hit] at hbi
      by_cases hjt : j < t.length
      · rw [hne j hjt] at hbj
        exact h.far i j b hit hjt hij hbi hbj
      · rw [show j = t.length by omega, hat] at hbj
        have := (hult b hbj).1; have := hlt i b hit hbi; omega
    · rw [show i = t.length by omega, hat] at hbi
      rw [hne j (by omega)] at hbj
      have := (hult b hbi).1; have := hlt j b (by omega) hbj; omega
/-- a cell of a row, and what a store there leaves -/
theorem Grow.spot (h : Grow f T E lo w v vs t) {j i : Nat} {r : List α} (hr : t[j]? = some r) (hi' : i < r.length) :
    ∃ b cap, vs j = .slice (some ⟨b, 0, none⟩) r.length cap ∧ lo ≤ b ∧ b < w.heap.size ∧ v.ownBlock ≠ some b ∧ w.cell? ⟨b, i, none⟩ = some (f r[i]) ∧ w.frozen? ⟨b, i, none⟩ = false ∧
      ∀ x, Grow f T E lo (w.setCell ⟨b, i, none⟩ (f x)) v vs (t.set j (r.set i x)) := by
  have ho := h.row j r hr
  have hj := (List.getElem?_eq_some_iff.1 hr).1
  obtain ⟨b, cap, e, hb1, hb2⟩ := ho.form (by omega)
  have hob : (vs j).ownBlock = some b := by rw [e]; rfl
  have htop := h.top j b hj hob
  rw [e] at ho
  refine ⟨b, cap, e, hb1, hb2, htop, ?_, ho.frozenAt i, fun x => ?_⟩
  · rw [ho.cellAt i (by omega)]
    simp [hi']
  · refine ⟨?_, fun k q hq => ?_, fun k b' hk hb' => h.top k b' (by simpa using hk) hb', fun a k b' ha hk hne hb' => h.far a k b' (by simpa using ha) (by simpa using hk) hne hb'⟩
    · rw [List.length_set]
      exact own_keep h.outer fun b' hb' => Below.heap_setCell w _ _ b' (fun e2 => htop (by rw [hb', show b' = b from e2]))
    · rw [List.getElem?_set] at hq
      by_cases hkj : j = k
      · subst hkj
        rw [if_pos rfl, if_pos hj] at hq
        injection hq with hq
        subst hq
        have := (ho.stored i (f x)).1
        rw [e]
        simpa [List.map_set] using this
      · rw [if_neg hkj] at hq
        have hk' := (List.getElem?_eq_some_iff.1 hq).1
        refine own_keep (h.row k q hq) fun b' hb' => Below.heap_setCell w _ _ b' ?_
        intro e2
        simp at e2
        subst e2
        exact h.far k j b' hk' hj (fun e => hkj e.symm) hb' hob
/-- the outer cells -/
theorem Grow.outer_ {A : Option Addr} {n c j : Nat} (h : Grow f T E lo w (.slice A n c) vs t) (hj : j < t.length) : ∃ g, A = some ⟨g, 0, none⟩ ∧ lo ≤ g ∧ g < w.heap.size ∧ w.cell? ⟨g, j, none⟩ = some (vs j) ∧ w.frozen? ⟨g, j, none⟩ = false := by
  have ho := h.outer
  obtain ⟨g, cap, e, h1, h2⟩ := ho.form (by omega)
  injection e with e1 e2 e3
  subst e1 e2 e3
  exact ⟨g, rfl, h1, h2, by rw [ho.cellAt j (by omega), mkL_get _ hj], ho.frozenAt j⟩
theorem Grow.own {A : Option Addr} {c : Nat} (h : Grow f T E lo w (.slice A t.length c) vs t) (hn : 0 < t.length) : ∃ g, A = some ⟨g, 0, none⟩ ∧ OwnT f E lo w.heap.size w g vs t := by
  have ho := h.outer
  obtain ⟨g, cap, e, h1, h2⟩ := ho.form (by omega)
  injection e with e1 e2 e3
  subst e1
  refine ⟨g, rfl, ⟨h1, h2⟩, Nat.le_refl _, fun j hj => ?_, h.row, fun j b hj hb => ⟨((h.row j _ (List.getElem?_eq_getElem hj)).lt b hb).2, fun e => h.top j b hj hb (by rw [e]; rfl)⟩, h.far⟩
  rw [ho.cellAt j (by omega), mkL_get _ hj]
theorem Grow.hold {A : Option Addr} {c : Nat} (h : Grow f T E lo w (.slice A t.length c) vs t) : Hold f E lo w.heap.size w A t := fun hn => by
  obtain ⟨g, e, ho⟩ := h.own hn
  exact ⟨g, vs, e, ho⟩
theorem Grow.cap {A : Option Addr} {n c : Nat} (h : Grow f T E lo w (.slice A n c) vs t) : t.length ≤ c ∧ c ≤ maxLen := own_cap h.outer
theorem Grow.nocap {n c : Nat} (h : Grow f T E lo w (.slice none n c) vs t) : c = 0 := by
  rcases h.outer.2 with ⟨h1, _⟩ | ⟨g, cap, cur, h1, _⟩
  · injection h1
  · injection h1 with h1; cases h1
end

section
variable {P : Program}
/-- append(own, u) where u is one cell: what is known of the blocks is kept -/
theorem appV {ops : Array Oper} {rest : List Oper} {o : Oper} {a : Act} {Q : Exit → Act → World → Prop} (s y : Operand) (t : TypeId)
    (ho : o.op = .call { callee := .builtin .append, args := #[s, y], argTypes := #[t, t] }) (hw : Region.wanted o (yielded ops a.tmps) = true)
    (w : World) (base : Nat) (T : TypeId) (z : Value) (bytes : Nat) (ht : P.underlying t = some (.slice T)) (hinfo : (P.info? T).map (fun i => (i.zero, i.size, i.bytes)) = some (some z, 1, bytes)) (hz1 : z.cells.size = 1)
    (A : Option Addr) (n c : Nat) (us : List Value) (hnx : us.length = n) (hs : a.eval s = .slice A n c) (hown : w.ownsRow base T 1 (.slice A n c) n us)
    (u : Value) (hx : a.eval y = .slice (some ⟨w.heap.size, 0, none⟩) 1 1) (h1 : u.oneCell' = true) (hn : n ≤ 1048576) (hby : bytes ≤ 1000) (hbase : base ≤ w.heap.size)
    (h : ∀ A' c' w', w'.ownsRow base T 1 (.slice A' (n + 1) c') (n + 1) (us ++ [u]) → w.grownBy w' (Value.slice A n c).ownBlock →
      (∀ b, (Value.slice A' (n + 1) c').ownBlock = some b → (Value.slice A n c).ownBlock = some b ∨ w.heap.size ≤ b) → wpList P ops Q rest (a.put o.dst (.slice A' (n + 1) c')) w') :
    wpList P ops Q (o :: rest) a (w.alloc (.cells #[u] T)) := by
  subst hnx
  refine unguard hw ?_
  refine app1 (o := { o with guard := none }) (f := fun v : Value => v) rfl s y t ho w base T z bytes ht hinfo hz1 A c us hs (by simpa using hown) u hx h1 hn hby hbase ?_
  intro A' c' w' h2 h3 h4
  exact h A' c' w' (by simpa using h2) h3 h4
end
end Go.Proofs.Ytncnghmadeghlaa
