/- A slice that reads as a list of integers, nil or not; append of such a slice onto a row of the call's own. -/
import Derived.Test.YtncnghmadeghlaaApp
import Derived.Laws.AppendOwnNone
namespace Go.Proofs.Ytncnghmadeghlaa
open Go.RowKit
set_option linter.unusedVariables false

/-- the slice value reads as xs; its capacity is sound -/
def Lst {α : Type} (f : α → Value) (w : World) (A : Option Addr) (c : Nat) (xs : List α) : Prop :=
  Seq f w A xs ∧ xs.length ≤ c ∧ c ≤ maxLen ∧ (A = none → c = 0)

/-- the answer, and that nothing that was there has turned -/
def Gives (v : Value) (w : World) (e : Ending) (w' : World) : Prop := e = .returned v ∧ Below w.heap.size w w'
theorem gives_same {v : Value} {w : World} {e : Ending} {w' : World} (h : e = .returned v ∧ w = w') : Gives v w e w' := by
  obtain ⟨rfl, rfl⟩ := h
  exact ⟨rfl, Below.refl _ _⟩

theorem maxLen_lit : maxLen = 9223372036854775807 := rfl

section
variable {α : Type} {f : α → Value} {w w' : World} {A : Option Addr} {c : Nat} {xs : List α}
theorem Lst.seq (h : Lst f w A c xs) : Seq f w A xs := h.1
theorem Lst.below (h : Lst f w A c xs) (hb : Below w.heap.size w w') : Lst f w' A c xs := ⟨h.1.below hb, h.2⟩
theorem Lst.of_own {base : Nat} {e : TypeId} (h : w.ownsRow base e 1 (.slice A xs.length c) xs.length (xs.map f)) : Lst f w A c xs := by
  have hc := own_cap h
  refine ⟨Seq.of_own h, hc.1, hc.2, fun hA => ?_⟩
  subst hA
  rcases h.2 with ⟨h1, _⟩ | ⟨g, cap, cur, h1, _⟩
  · injection h1
  · injection h1 with h1; cases h1
theorem Lst.take (h : Lst f w A c xs) {k : Nat} (hk : k ≤ xs.length) : Lst f w A c (xs.take k) :=
  ⟨h.1.take k, by simp; have := h.2.1; omega, h.2.2⟩
theorem Lst.drop (h : Lst f w A c xs) {k : Nat} (hk : k ≤ xs.length) : Lst f w (if c = k then A else A.map (·.add k)) (c - k) (xs.drop k) := by
  refine ⟨h.1.drop h.2.1, by simp; have := h.2.1; omega, by have := h.2.2.1; omega, fun hA => ?_⟩
  split at hA
  · omega
  · cases A
    · have := h.2.2.2 rfl; omega
    · cases hA
/-- a new literal -/
theorem Seq.lit (w : World) (E : TypeId) (cs : Array Value) (xs : List α) (h : cs.toList = xs.map f) : Seq f (w.alloc (.cells cs E)) (some ⟨w.heap.size, 0, none⟩) xs := fun hn => by
  refine ⟨w.heap.size, 0, rfl, by simp, fun j x hx => ?_⟩
  have := Deep.blk_alloc_new w (.cells cs E)
  rw [show (0 + j : Nat) = j by omega, cell_of_row _ _ j cs E (0, 0) (heap_alloc_new w _), ← Array.getElem?_toList, h]
  simp [hx]
theorem Lst.lit (w : World) (E : TypeId) (cs : Array Value) (xs : List α) (n : Nat) (h : cs.toList = xs.map f) (hn : n = xs.length) (hm : n ≤ 1048576) : Lst f (w.alloc (.cells cs E)) (some ⟨w.heap.size, 0, none⟩) n xs :=
  ⟨Seq.lit w E cs xs h, by omega, by unfold maxLen; omega, fun h => by cases h⟩
end

theorem own_lower {w : World} {base base' : Nat} {e : TypeId} {size : Nat} {v : Value} {n : Nat} {xs : List Value} (h : w.ownsRow base e size v n xs) (hb : base' ≤ base) : w.ownsRow base' e size v n xs := by
  refine ⟨h.1, h.2.imp id ?_⟩
  rintro ⟨g, cap, cur, h1, h2, h3⟩
  exact ⟨g, cap, cur, h1, by omega, h3⟩
theorem own_below {w w' : World} {base : Nat} {e : TypeId} {size : Nat} {v : Value} {n : Nat} {xs : List Value} (h : w.ownsRow base e size v n xs) (hb : Below w.heap.size w w') : w'.ownsRow base e size v n xs := by
  refine ⟨h.1, h.2.imp id ?_⟩
  rintro ⟨g, cap, cur, h1, h2, h3, h4⟩
  refine ⟨g, cap, cur, h1, h2, (hb.block g ?_).trans h3, h4⟩
  rcases Nat.lt_or_ge g w.heap.size with hlt | hge
  · exact hlt
  · rw [Array.getElem?_eq_none hge] at h3; cases h3

theorem own_empty (w : World) (t : TypeId) : (w.alloc (.cells #[] t)).ownsRow w.heap.size t 1 (.slice (some ⟨w.heap.size, 0, none⟩) 0 0) 0 [] :=
  ⟨rfl, .inr ⟨w.heap.size, 0, #[], rfl, Nat.le_refl _, Deep.blk_alloc_new _ _, Nat.le_refl _, by unfold maxLen; omega, rfl, rfl⟩⟩
/-- only new blocks, and stores into blocks from base on -/
theorem below_own {w w' : World} {base : Nat} {e : TypeId} {size : Nat} {v : Value} {n : Nat} {xs : List Value} (h : w.ownsRow base e size v n xs) (hg : w.grownBy w' v.ownBlock) (hb : base ≤ w.heap.size) : Below base w w' :=
  (Below.refl _ _).grown hg hb fun k hk => (h.lt k hk).1

/-- an operation whose guard is met goes as one without a guard -/
theorem unguard {P : Program} {ops : Array Oper} {Q : Exit → Act → World → Prop} {a : Act} {w : World} {rest : List Oper} {o : Oper} (hw : Region.wanted o (yielded ops a.tmps) = true)
    (h : wpList P ops Q ({ o with guard := none } :: rest) a w) : wpList P ops Q (o :: rest) a w := by
  unfold wpList at h ⊢
  rw [if_pos hw]
  rw [if_pos (by simp [Region.wanted])] at h
  exact h

section
variable {P : Program} {α : Type} {f : α → Value}
theorem appAll {ops : Array Oper} {rest : List Oper} {o : Oper} {a : Act} {Q : Exit → Act → World → Prop} (hgd : o.guard = none) (s y : Operand) (t : TypeId)
    (ho : o.op = .call { callee := .builtin .append, args := #[s, y], argTypes := #[t, t] })
    (w : World) (base : Nat) (E : TypeId) (z : Value) (bytes : Nat) (ht : P.underlying t = some (.slice E)) (hinfo : (P.info? E).map (fun i => (i.zero, i.size, i.bytes)) = some (some z, 1, bytes)) (hz1 : z.cells.size = 1)
    (A : Option Addr) (c : Nat) (xs : List α) (hs : a.eval s = .slice A xs.length c) (hown : w.ownsRow base E 1 (.slice A xs.length c) xs.length (xs.map f))
    (A' : Option Addr) (c' : Nat) (ys : List α) (hx : a.eval y = .slice A' ys.length c') (hl : Lst f w A' c' ys) (h1 : ∀ x, (f x).oneCell' = true) (hn : xs.length ≤ 1048576) (hm : ys.length ≤ 1048576) (hby : bytes ≤ 1000) (hbase : base ≤ w.heap.size)
    (h : ∀ A2 c2 w', w'.ownsRow base E 1 (.slice A2 (xs ++ ys).length c2) (xs ++ ys).length ((xs ++ ys).map f) → Below base w w' → wpList P ops Q rest (a.put o.dst (.slice A2 (xs ++ ys).length c2)) w') :
    wpList P ops Q (o :: rest) a w := by
  obtain ⟨i, hi, hz, hsz, hb⟩ := info_parts hinfo
  rcases A' with _ | ad
  · have hc : c' = 0 := hl.2.2.2 rfl
    have hy : ys = [] := List.eq_nil_of_length_eq_zero (by have := hl.2.1; omega)
    subst hc hy
    refine wpList_append_own_none hgd s y t ho base E i 1 ht hi _ _ _ hs hown hx ?_
    have := h A c w (by simpa using hown) (Below.refl _ _)
    simpa using this
  · refine wpList_append_own_at _ hgd s y t ho base E i z 1 bytes ht hi hz hsz hb hz1 (by decide) _ _ _ hs hown ad ys.length c' (ys.map f) hx (by simp) ?_ ?_
      (by unfold maxLen; omega) ?_ hbase ?_
    · intro j u hu
      have hj : j < ys.length := by
        have := (List.getElem?_eq_some_iff.1 hu).1
        simpa using this
      obtain ⟨b, o, x, e, hlt, hxk, hc⟩ := hl.1.at_ hj
      injection e with e
      subst e
      have e2 : (⟨b, o, none⟩ : Addr).add j = ⟨b, o + j, none⟩ := by
        unfold Addr.add
        split
        · next h0 => subst h0; rfl
        · rfl
      rw [e2, hc]
      rw [List.getElem?_map, hxk] at hu
      exact hu
    · intro u hu
      obtain ⟨x, _, rfl⟩ := List.mem_map.1 hu
      exact h1 x
    · have : (xs.length + ys.length) * bytes ≤ 2097152 * 1000 := Nat.mul_le_mul (by omega) hby
      omega
    · intro v' w' h2 h3 _ h5
      obtain ⟨A2, c2, rfl, _⟩ := own_slice h2
      have hlen : (xs ++ ys).length = xs.length + ys.length := by simp
      have := h A2 c2 w' (by rw [hlen]; simpa using h2) (below_own hown h3 hbase)
      rw [hlen] at this
      exact this

/-- append(own, ys...), the lists under names of their own -/
theorem appN {ops : Array Oper} {rest : List Oper} {o : Oper} {a : Act} {Q : Exit → Act → World → Prop} (s y : Operand) (t : TypeId)
    (ho : o.op = .call { callee := .builtin .append, args := #[s, y], argTypes := #[t, t] }) (hw : Region.wanted o (yielded ops a.tmps) = true)
    (w : World) (base : Nat) (E : TypeId) (z : Value) (bytes : Nat) (ht : P.underlying t = some (.slice E)) (hinfo : (P.info? E).map (fun i => (i.zero, i.size, i.bytes)) = some (some z, 1, bytes)) (hz1 : z.cells.size = 1)
    (A : Option Addr) (n c : Nat) (xs : List α) (hnx : xs.length = n) (hs : a.eval s = .slice A n c) (hown : w.ownsRow base E 1 (.slice A n c) n (xs.map f))
    (A' : Option Addr) (m c' : Nat) (ys : List α) (hny : ys.length = m) (hx : a.eval y = .slice A' m c') (hl : Lst f w A' c' ys) (h1 : ∀ x, (f x).oneCell' = true) (hn : n ≤ 1048576) (hm : m ≤ 1048576) (hby : bytes ≤ 1000) (hbase : base ≤ w.heap.size)
    (h : ∀ A2 c2 zs w', Hid (zs = xs ++ ys) → w'.ownsRow base E 1 (.slice A2 zs.length c2) zs.length (zs.map f) → Below base w w' → wpList P ops Q rest (a.put o.dst (.slice A2 zs.length c2)) w') :
    wpList P ops Q (o :: rest) a w := by
  subst hnx hny
  refine unguard hw ?_
  refine appAll (o := { o with guard := none }) rfl s y t ho w base E z bytes ht hinfo hz1 A c xs hs hown A' c' ys hx hl h1 hn hm hby hbase ?_
  intro A2 c2 w' h2 h3
  exact h A2 c2 (xs ++ ys) w' (Lib.hid rfl) h2 h3
/-- append([]T{}, ys...) -/
theorem appFresh {ops : Array Oper} {rest : List Oper} {o : Oper} {a : Act} {Q : Exit → Act → World → Prop} (s y : Operand) (t : TypeId)
    (ho : o.op = .call { callee := .builtin .append, args := #[s, y], argTypes := #[t, t] }) (hw : Region.wanted o (yielded ops a.tmps) = true)
    (w : World) (E : TypeId) (z : Value) (bytes : Nat) (ht : P.underlying t = some (.slice E)) (hinfo : (P.info? E).map (fun i => (i.zero, i.size, i.bytes)) = some (some z, 1, bytes)) (hz1 : z.cells.size = 1)
    (hs : a.eval s = .slice (some ⟨w.heap.size, 0, none⟩) 0 0)
    (A' : Option Addr) (m c' : Nat) (ys : List α) (hny : ys.length = m) (hx : a.eval y = .slice A' m c') (hl : Lst f w A' c' ys) (h1 : ∀ x, (f x).oneCell' = true) (hm : m ≤ 1048576) (hby : bytes ≤ 1000)
    (h : ∀ A2 c2 zs w', Hid (zs = ys) → w'.ownsRow w.heap.size E 1 (.slice A2 zs.length c2) zs.length (zs.map f) → Below w.heap.size w w' → wpList P ops Q rest (a.put o.dst (.slice A2 zs.length c2)) w') :
    wpList P ops Q (o :: rest) a (w.alloc (.cells #[] E)) := by
  have hb0 : Below w.heap.size w (w.alloc (.cells #[] E)) := (Below.refl _ _).alloc (Nat.le_refl _) _
  refine appN (f := f) s y t ho hw _ w.heap.size E z bytes ht hinfo hz1 _ 0 0 [] rfl hs (own_empty w E) A' m c' ys hny hx (hl.below hb0) h1 (by omega) hm hby (by simp) ?_
  intro A2 c2 zs w' hz h2 h3
  exact h A2 c2 zs w' (Lib.hid (by simpa using hz.out)) h2 (hb0.trans h3)
/-- append(own, x) -/
theorem appOne {ops : Array Oper} {rest : List Oper} {o : Oper} {a : Act} {Q : Exit → Act → World → Prop} (s y : Operand) (t : TypeId)
    (ho : o.op = .call { callee := .builtin .append, args := #[s, y], argTypes := #[t, t] }) (hw : Region.wanted o (yielded ops a.tmps) = true)
    (w : World) (base : Nat) (E : TypeId) (z : Value) (bytes : Nat) (ht : P.underlying t = some (.slice E)) (hinfo : (P.info? E).map (fun i => (i.zero, i.size, i.bytes)) = some (some z, 1, bytes)) (hz1 : z.cells.size = 1)
    (A : Option Addr) (n c : Nat) (xs : List α) (hnx : xs.length = n) (hs : a.eval s = .slice A n c) (hown : w.ownsRow base E 1 (.slice A n c) n (xs.map f))
    (x : α) (hx : a.eval y = .slice (some ⟨w.heap.size, 0, none⟩) 1 1) (h1 : ∀ x, (f x).oneCell' = true) (hn : n ≤ 1048576) (hby : bytes ≤ 1000) (hbase : base ≤ w.heap.size)
    (h : ∀ A2 c2 zs w', Hid (zs = xs ++ [x]) → w'.ownsRow base E 1 (.slice A2 zs.length c2) zs.length (zs.map f) → Below base w w' → wpList P ops Q rest (a.put o.dst (.slice A2 zs.length c2)) w') :
    wpList P ops Q (o :: rest) a (w.alloc (.cells #[f x] E)) := by
  have hb0 : Below base w (w.alloc (.cells #[f x] E)) := (Below.refl _ _).alloc hbase _
  refine appN (f := f) s y t ho hw _ base E z bytes ht hinfo hz1 A n c xs hnx hs (hown.alloc _) _ 1 1 [x] rfl hx (Lst.lit w E _ [x] 1 rfl rfl (by omega)) h1 hn (by omega) hby (by simp; omega) ?_
  intro A2 c2 zs w' hz h2 h3
  exact h A2 c2 zs w' hz h2 (hb0.trans h3)

/-- append(own, ys...) as one step of a region that draws its order -/
theorem stepN {ops : Array Oper} {o : Oper} {a : Act} {K : Act → World → Prop} {Q : Exit → Act → World → Prop} {F : Prop} (hgd : o.guard = none) (s y : Operand) (t : TypeId)
    (ho : o.op = .call { callee := .builtin .append, args := #[s, y], argTypes := #[t, t] })
    (w : World) (base : Nat) (E : TypeId) (z : Value) (bytes : Nat) (ht : P.underlying t = some (.slice E)) (hinfo : (P.info? E).map (fun i => (i.zero, i.size, i.bytes)) = some (some z, 1, bytes)) (hz1 : z.cells.size = 1)
    (A : Option Addr) (n c : Nat) (xs : List α) (hnx : xs.length = n) (hs : a.eval s = .slice A n c) (hown : w.ownsRow base E 1 (.slice A n c) n (xs.map f))
    (A' : Option Addr) (m c' : Nat) (ys : List α) (hny : ys.length = m) (hx : a.eval y = .slice A' m c') (hl : Lst f w A' c' ys) (h1 : ∀ x, (f x).oneCell' = true) (hn : n ≤ 1048576) (hm : m ≤ 1048576) (hby : bytes ≤ 1000) (hbase : base ≤ w.heap.size)
    (h : ∀ A2 c2 zs w', Hid (zs = xs ++ ys) → w'.ownsRow base E 1 (.slice A2 zs.length c2) zs.length (zs.map f) → Below base w w' → K (a.put o.dst (.slice A2 zs.length c2)) w') :
    if Region.wanted o (yielded ops a.tmps) = true then Oper.wp P o a w K Q else F := by
  have hw : Region.wanted o (yielded ops a.tmps) = true := by simp [Region.wanted, hgd]
  rw [if_pos hw]
  obtain ⟨i, hi, hz, hsz, hb⟩ := info_parts hinfo
  subst hnx hny
  rcases A' with _ | ad
  · have hc : c' = 0 := hl.2.2.2 rfl
    have hy : ys = [] := List.eq_nil_of_length_eq_zero (by have := hl.2.1; omega)
    subst hc hy
    have hrun := run_append_owned_none (P := P) (w := w) base t o.type E i 1 ht hi _ _ _ hown
    unfold Oper.wp execOp
    simp only [ho, resolve, invoke, builtin, Sem.run_bind, Sem.run_pure, Result.andThen_ok, List.map_toArray, List.map_cons, List.map_nil, hs, hx, List.length_nil, hrun]
    have := h A c xs w (Lib.hid (by simp)) hown (Below.refl _ _)
    exact this
  obtain ⟨v', w', hrun, h2, h3, _, _⟩ := run_append_own_at (P := P) w base t o.type E i z 1 bytes ht hi hz hsz hb hz1 (by decide) (.slice A xs.length c) xs.length (xs.map f) hown ad ys.length c' (ys.map f) (by simp) (by
      intro j u hu
      have hj : j < ys.length := by
        have := (List.getElem?_eq_some_iff.1 hu).1
        simpa using this
      obtain ⟨b, o, x, e, hlt, hxk, hc⟩ := hl.1.at_ hj
      injection e with e
      subst e
      have e2 : (⟨b, o, none⟩ : Addr).add j = ⟨b, o + j, none⟩ := by
        unfold Addr.add
        split
        · next h0 => subst h0; rfl
        · rfl
      rw [e2, hc]
      rw [List.getElem?_map, hxk] at hu
      exact hu) (by
      intro u hu
      obtain ⟨x, _, rfl⟩ := List.mem_map.1 hu
      exact h1 x) (by unfold maxLen; omega) (by
      have : (xs.length + ys.length) * bytes ≤ 2097152 * 1000 := Nat.mul_le_mul (by omega) hby
      omega) hbase
  unfold Oper.wp execOp
  simp only [ho, resolve, invoke, builtin, Sem.run_bind, Sem.run_pure, Result.andThen_ok, List.map_toArray, List.map_cons, List.map_nil, hs, hx, hrun]
  obtain ⟨A2, c2, rfl, _⟩ := own_slice h2
  have hlen : (xs ++ ys).length = xs.length + ys.length := by simp
  have := h A2 c2 (xs ++ ys) w' (Lib.hid rfl) (by rw [hlen]; simpa using h2) (below_own hown h3 hbase)
  rw [hlen] at this
  exact this
end
end Go.Proofs.Ytncnghmadeghlaa
