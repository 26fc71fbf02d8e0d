/- Lists of persons in memory of one's own: appended, edited. -/
import Derived.Test.YtncnghmadeghlaaTofW
import Derived.Test.YtncnghmadeghlaaApp
import Derived.Test.YtncnghmadeghlaaLst
import Derived.Test.YtncnghmadeghlaaPerY
namespace Go.Proofs.Ytncnghmadeghlaa
open Go.RowKit
set_option linter.unusedVariables false
def flatP : List Per → List Value
  | [] => []
  | p :: ps => .int .i64 p.area :: .int .i64 p.job :: .int .i64 p.sex :: .int .i64 p.pay :: flatP ps
theorem flatP_len : ∀ ps : List Per, (flatP ps).length = ps.length * 4
  | [] => rfl
  | p :: ps => by simp [flatP, flatP_len ps]; omega
theorem flatP_app : ∀ xs ys : List Per, flatP (xs ++ ys) = flatP xs ++ flatP ys
  | [], ys => rfl
  | p :: xs, ys => by simp [flatP, flatP_app xs ys]
theorem flatP_get : ∀ (ps : List Per) (k : Nat) (p : Per), ps[k]? = some p → (flatP ps)[k * 4]? = some (.int .i64 p.area) ∧ (flatP ps)[k * 4 + 1]? = some (.int .i64 p.job) ∧ (flatP ps)[k * 4 + 2]? = some (.int .i64 p.sex) ∧ (flatP ps)[k * 4 + 3]? = some (.int .i64 p.pay)
  | [], k, p, h => by simp at h
  | q :: ps, 0, p, h => by
    simp at h
    subst h
    exact ⟨rfl, rfl, rfl, rfl⟩
  | q :: ps, k + 1, p, h => by
    have h' : ps[k]? = some p := by simpa using h
    have ih := flatP_get ps k p h'
    rw [show (k + 1) * 4 = k * 4 + 4 by omega]
    exact ⟨by simpa [flatP] using ih.1, by simpa [flatP] using ih.2.1, by simpa [flatP] using ih.2.2.1, by simpa [flatP] using ih.2.2.2⟩
theorem flatP_one (ps : List Per) : ∀ u ∈ flatP ps, u.oneCell' = true := by
  induction ps with
  | nil => intro u h; cases h
  | cons p ps ih =>
    intro u h
    simp only [flatP, List.mem_cons] at h
    rcases h with rfl | rfl | rfl | rfl | h
    · rfl
    · rfl
    · rfl
    · rfl
    · exact ih u h
theorem flatP_area : ∀ (ps : List Per) (k : Nat) (p : Per) (a : Int), ps[k]? = some p → (flatP ps).set (k * 4) (.int .i64 a) = flatP (ps.set k { p with area := a })
  | [], k, p, a, h => by simp at h
  | q :: ps, 0, p, a, h => by
    simp at h
    subst h
    rfl
  | q :: ps, k + 1, p, a, h => by
    have h' : ps[k]? = some p := by simpa using h
    have ih := flatP_area ps k p a h'
    rw [show (k + 1) * 4 = k * 4 + 4 by omega]
    simp only [flatP, List.set_cons_succ, ih]
theorem flatP_sex : ∀ (ps : List Per) (k : Nat) (p : Per) (a : Int), ps[k]? = some p → (flatP ps).set (k * 4 + 2) (.int .i64 a) = flatP (ps.set k { p with sex := a })
  | [], k, p, a, h => by simp at h
  | q :: ps, 0, p, a, h => by
    simp at h
    subst h
    rfl
  | q :: ps, k + 1, p, a, h => by
    have h' : ps[k]? = some p := by simpa using h
    have ih := flatP_sex ps k p a h'
    rw [show (k + 1) * 4 + 2 = (k * 4 + 2) + 4 by omega]
    simp only [flatP, List.set_cons_succ, ih]
theorem flatP_pay : ∀ (ps : List Per) (k : Nat) (p : Per) (a : Int), ps[k]? = some p → (flatP ps).set (k * 4 + 3) (.int .i64 a) = flatP (ps.set k { p with pay := a })
  | [], k, p, a, h => by simp at h
  | q :: ps, 0, p, a, h => by
    simp at h
    subst h
    rfl
  | q :: ps, k + 1, p, a, h => by
    have h' : ps[k]? = some p := by simpa using h
    have ih := flatP_pay ps k p a h'
    rw [show (k + 1) * 4 + 3 = (k * 4 + 3) + 4 by omega]
    simp only [flatP, List.set_cons_succ, ih]
theorem own_keep4 {w w' : World} {base n m : Nat} {E : TypeId} {v : Value} {xs : List Value} (h : w.ownsRow base E m v n xs) (hk : ∀ b, v.ownBlock = some b → w'.heap[b]? = w.heap[b]?) : w'.ownsRow base E m v n xs := by
  refine ⟨h.1, h.2.imp id ?_⟩
  rintro ⟨b, cap, cur, h1, h2, h3, h4⟩
  exact ⟨b, cap, cur, h1, h2, (hk b (by rw [h1]; rfl)).trans h3, h4⟩
/-- a slice of persons of one's own -/
def OwnP (w : World) (lo : Nat) (A : Option Addr) (n c : Nat) (ps : List Per) : Prop := w.ownsRow lo TP 4 (.slice A n c) n (flatP ps) ∧ ps.length = n
section
variable {w w' : World} {lo n c : Nat} {A : Option Addr} {ps : List Per}
theorem OwnP.seq (h : OwnP w lo A n c ps) : SeqP w A ps := fun hn => by
  obtain ⟨ho, rfl⟩ := h
  obtain ⟨g, cap, e, h1, h2⟩ := ho.form (by omega)
  injection e with e1 e2 e3
  subst e1 e3
  refine ⟨g, 0, rfl, h2, fun i p hp => ?_⟩
  have hi := (List.getElem?_eq_some_iff.1 hp).1
  obtain ⟨f0, f1, f2, f3⟩ := flatP_get ps i p hp
  rw [Nat.zero_add]
  exact ⟨by rw [ho.cellAt _ (by omega), f0], by rw [ho.cellAt _ (by omega), f1], by rw [ho.cellAt _ (by omega), f2], by rw [ho.cellAt _ (by omega), f3]⟩
theorem OwnP.cap (h : OwnP w lo A n c ps) : n ≤ c ∧ c ≤ maxLen := own_cap h.1
theorem OwnP.keep (h : OwnP w lo A n c ps) (hk : ∀ i, lo ≤ i → i < w.heap.size → w'.heap[i]? = w.heap[i]?) : OwnP w' lo A n c ps :=
  ⟨own_keep4 h.1 fun b hb => hk b (h.1.lt b hb).1 (h.1.lt b hb).2, h.2⟩
theorem OwnP.below (h : OwnP w lo A n c ps) (hb : Below w.heap.size w w') : OwnP w' lo A n c ps := h.keep fun i _ hi => hb.block i hi
theorem OwnP.at_ (h : OwnP w lo A n c ps) {k : Nat} (hk : k < n) : ∃ g p, A = some ⟨g, 0, none⟩ ∧ lo ≤ g ∧ g < w.heap.size ∧ ps[k]? = some p ∧ Cells4 w g (k * 4) p := by
  have hs := h.seq
  obtain ⟨g, cap, e, h1, h2⟩ := h.1.form (by omega)
  injection e with e1 e2 e3
  subst e1
  have hn := h.2
  obtain ⟨b, o, p, e, -, hp, hc⟩ := hs.at_ (k := k) (by omega)
  injection e with e
  injection e with e1 e2
  subst e1 e2
  rw [Nat.zero_add] at hc
  exact ⟨g, p, rfl, h1, h2, hp, hc⟩
theorem OwnP.area {g : Nat} (h : OwnP w lo (some ⟨g, 0, none⟩) n c ps) {k : Nat} {p : Per} (hp : ps[k]? = some p) (a : Int) :
    w.frozen? ⟨g, k * 4, none⟩ = false ∧ OwnP (w.setCell ⟨g, k * 4, none⟩ (.int .i64 a)) lo (some ⟨g, 0, none⟩) n c (ps.set k { p with area := a }) :=
  ⟨h.1.frozenAt _, by rw [← flatP_area ps k p a hp]; exact (h.1.stored _ _).1, by rw [List.length_set]; exact h.2⟩
theorem OwnP.sex {g : Nat} (h : OwnP w lo (some ⟨g, 0, none⟩) n c ps) {k : Nat} {p : Per} (hp : ps[k]? = some p) (a : Int) :
    w.frozen? ⟨g, k * 4 + 2, none⟩ = false ∧ OwnP (w.setCell ⟨g, k * 4 + 2, none⟩ (.int .i64 a)) lo (some ⟨g, 0, none⟩) n c (ps.set k { p with sex := a }) :=
  ⟨h.1.frozenAt _, by rw [← flatP_sex ps k p a hp]; exact (h.1.stored _ _).1, by rw [List.length_set]; exact h.2⟩
theorem OwnP.pay {g : Nat} (h : OwnP w lo (some ⟨g, 0, none⟩) n c ps) {k : Nat} {p : Per} (hp : ps[k]? = some p) (a : Int) :
    w.frozen? ⟨g, k * 4 + 3, none⟩ = false ∧ OwnP (w.setCell ⟨g, k * 4 + 3, none⟩ (.int .i64 a)) lo (some ⟨g, 0, none⟩) n c (ps.set k { p with pay := a }) :=
  ⟨h.1.frozenAt _, by rw [← flatP_pay ps k p a hp]; exact (h.1.stored _ _).1, by rw [List.length_set]; exact h.2⟩
end
theorem ownP_nil (w : World) : OwnP (w.alloc (.cells #[] TP)) w.heap.size (some ⟨w.heap.size, 0, none⟩) 0 0 [] :=
  ⟨⟨rfl, .inr ⟨w.heap.size, 0, #[], rfl, Nat.le_refl _, Deep.blk_alloc_new _ _, Nat.le_refl _, by unfold maxLen; omega, rfl, rfl⟩⟩, rfl⟩
theorem ownP_none (w : World) (lo : Nat) : OwnP w lo none 0 0 [] := ⟨⟨rfl, .inl ⟨rfl, rfl⟩⟩, rfl⟩
theorem add_cells (b o j : Nat) : (⟨b, o, none⟩ : Addr).add j = ⟨b, o + j, none⟩ := by
  unfold Addr.add
  split
  · next h0 => subst h0; rfl
  · rfl
theorem seqP_cells {w : World} {b o : Nat} {ps : List Per} (hc : ∀ (i : Nat) (p : Per), ps[i]? = some p → Cells4 w b (o + i * 4) p) : ∀ j u, (flatP ps)[j]? = some u → w.cell? ((⟨b, o, none⟩ : Addr).add j) = some u := by
  intro j u hu
  have hj : j < ps.length * 4 := by rw [← flatP_len]; exact (List.getElem?_eq_some_iff.1 hu).1
  have hp : ps[j / 4]? = some ps[j / 4] := List.getElem?_eq_getElem (by omega)
  obtain ⟨c0, c1, c2, c3⟩ := hc (j / 4) _ hp
  obtain ⟨f0, f1, f2, f3⟩ := flatP_get ps (j / 4) _ hp
  rw [add_cells]
  have h4 : j = j / 4 * 4 ∨ j = j / 4 * 4 + 1 ∨ j = j / 4 * 4 + 2 ∨ j = j / 4 * 4 + 3 := by omega
  rcases h4 with h | h | h | h
  · rw [h, f0] at hu; rw [h, c0]; exact hu
  · rw [h, f1] at hu; rw [h, ← Nat.add_assoc, c1]; exact hu
  · rw [h, f2] at hu; rw [h, ← Nat.add_assoc, c2]; exact hu
  · rw [h, f3] at hu; rw [h, ← Nat.add_assoc, c3]; exact hu
section
variable {ops : Array Oper} {rest : List Oper} {o : Oper} {a : Act} {Q : Exit → Act → World → Prop}
/-- append(own, ys...) -/
theorem appP (s y : Operand) (t : TypeId)
    (ho : o.op = .call { callee := .builtin .append, args := #[s, y], argTypes := #[t, t] }) (hw : Region.wanted o (yielded ops a.tmps) = true)
    (w : World) (base : Nat) (ht : Try.prog.underlying t = some (.slice TP))
    (A : Option Addr) (n c : Nat) (xs : List Per) (hs : a.eval s = .slice A n c) (hown : OwnP w base A n c xs)
    (A' : Option Addr) (m c' : Nat) (ys : List Per) (hny : ys.length = m) (hx : a.eval y = .slice A' m c') (hl : SeqP w A' ys) (hc' : A' = none → c' = 0) (hn : n ≤ 1048576) (hm : m ≤ 1048576) (hbase : base ≤ w.heap.size)
    (h : ∀ A2 c2 w', OwnP w' base A2 (n + m) c2 (xs ++ ys) → w.grownBy w' (Value.slice A n c).ownBlock → (∀ b, (Value.slice A2 (n + m) c2).ownBlock = some b → (Value.slice A n c).ownBlock = some b ∨ w.heap.size ≤ b) → wpList Try.prog ops Q rest (a.put o.dst (.slice A2 (n + m) c2)) w') :
    wpList Try.prog ops Q (o :: rest) a w := by
  refine unguard hw ?_
  obtain ⟨i, hi, hz, hsz, hb⟩ := (Option.map_eq_some_iff.1 nfoP).imp fun i h => (⟨h.1, by simpa using h.2⟩ : _ ∧ _ ∧ _ ∧ _)
  subst hny
  rcases A' with _ | ad
  · have hys : ys = [] := by
      rcases ys with _ | ⟨p, ps⟩
      · rfl
      · obtain ⟨b, o, e, -⟩ := hl (by simp)
        cases e
    subst hys
    have hcz := hc' rfl
    subst hcz
    refine wpList_append_own_none (o := { o with guard := none }) rfl s y t ho base TP i 4 ht hi _ _ _ hs hown.1 hx ?_
    have := h A c w (by simpa using hown) ⟨rfl, rfl, rfl, Nat.le_refl _, fun _ _ _ => rfl⟩ (fun b hb => .inl (by simpa using hb))
    simpa using this
  · refine wpList_append_own_at (o := { o with guard := none }) _ rfl s y t ho base TP i _ 4 32 ht hi hz hsz hb (by rfl) (by decide) _ _ _ hs hown.1 ad ys.length c' (flatP ys) hx (flatP_len ys) ?_ (flatP_one ys)
      (by unfold maxLen; omega) (by omega) hbase ?_
    · intro j u hu
      have hpos : 0 < ys.length := by
        have := (List.getElem?_eq_some_iff.1 hu).1
        rw [flatP_len] at this
        omega
      obtain ⟨b, o', e, hlt, hcs⟩ := hl hpos
      injection e with e
      subst e
      exact seqP_cells hcs j u hu
    · intro v' w' h2 h3 _ h5
      obtain ⟨A2, c2, rfl, _⟩ := own_slice h2
      refine h A2 c2 w' ⟨by rw [flatP_app]; exact h2, by simp [hown.2]⟩ h3 fun b hb => ?_
      rcases h5 with h5 | h5
      · rw [h5] at hb; exact .inl hb
      · rw [h5] at hb
        injection hb with hb
        exact .inr (by omega)
/-- append(own, p) -/
theorem appP1 (s y : Operand) (t : TypeId)
    (ho : o.op = .call { callee := .builtin .append, args := #[s, y], argTypes := #[t, t] }) (hw : Region.wanted o (yielded ops a.tmps) = true)
    (w : World) (base : Nat) (ht : Try.prog.underlying t = some (.slice TP))
    (A : Option Addr) (n c : Nat) (xs : List Per) (hs : a.eval s = .slice A n c) (hown : OwnP w base A n c xs)
    (pa pj ps py : Int) (hx : a.eval y = .slice (some ⟨w.heap.size, 0, none⟩) 1 1) (hn : n ≤ 1048576) (hbase : base ≤ w.heap.size)
    (h : ∀ A2 c2 w', OwnP w' base A2 (n + 1) c2 (xs ++ [⟨pa, pj, ps, py⟩]) → w.grownBy w' (Value.slice A n c).ownBlock → (∀ b, (Value.slice A2 (n + 1) c2).ownBlock = some b → (Value.slice A n c).ownBlock = some b ∨ w.heap.size ≤ b) → wpList Try.prog ops Q rest (a.put o.dst (.slice A2 (n + 1) c2)) w') :
    wpList Try.prog ops Q (o :: rest) a (w.alloc (.cells #[.int .i64 pa, .int .i64 pj, .int .i64 ps, .int .i64 py] TP)) := by
  have hb0 : Below w.heap.size w (w.alloc (.cells #[.int .i64 pa, .int .i64 pj, .int .i64 ps, .int .i64 py] TP)) := (Below.refl _ _).alloc (Nat.le_refl _) _
  have hB := Blk.new w TP #[.int .i64 pa, .int .i64 pj, .int .i64 ps, .int .i64 py]
  refine appP s y t ho hw _ base ht A n c xs hs (hown.below hb0) (some ⟨w.heap.size, 0, none⟩) 1 1 [⟨pa, pj, ps, py⟩] rfl hx (fun _ => ⟨w.heap.size, 0, rfl, by simp, fun i p hp => ?_⟩) (fun e => by cases e) hn (by omega) (by simp; omega) ?_
  · have hi : i = 0 := by have := (List.getElem?_eq_some_iff.1 hp).1; simp at this; exact this
    subst hi
    simp at hp
    subst hp
    exact ⟨by rw [hB.cell]; rfl, by rw [hB.cell]; rfl, by rw [hB.cell]; rfl, by rw [hB.cell]; rfl⟩
  · intro A2 c2 w' h1 h2 h3
    refine h A2 c2 w' h1 ⟨h2.os, h2.tape, h2.output, by have := h2.size; simp at this; omega, fun k hk hne => (h2.block k (by simp; omega) hne).trans (Below.heap_alloc _ _ _ hk)⟩ fun b hb => ?_
    rcases h3 b hb with h | h
    · exact .inl h
    · exact .inr (by simp at h; omega)
/-- append(own, p), the size under a name -/
theorem appP1s (s y : Operand) (t : TypeId)
    (ho : o.op = .call { callee := .builtin .append, args := #[s, y], argTypes := #[t, t] }) (hw : Region.wanted o (yielded ops a.tmps) = true)
    (w : World) (sz : Nat) (hsz : w.heap.size = sz) (base : Nat) (ht : Try.prog.underlying t = some (.slice TP))
    (A : Option Addr) (n c : Nat) (xs : List Per) (hs : a.eval s = .slice A n c) (hown : OwnP w base A n c xs)
    (pa pj ps py : Int) (hx : a.eval y = .slice (some ⟨sz, 0, none⟩) 1 1) (hn : n ≤ 1048576) (hbase : base ≤ w.heap.size)
    (h : ∀ A2 c2 w', OwnP w' base A2 (n + 1) c2 (xs ++ [⟨pa, pj, ps, py⟩]) → w.grownBy w' (Value.slice A n c).ownBlock → wpList Try.prog ops Q rest (a.put o.dst (.slice A2 (n + 1) c2)) w') :
    wpList Try.prog ops Q (o :: rest) a (w.alloc (.cells #[.int .i64 pa, .int .i64 pj, .int .i64 ps, .int .i64 py] TP)) := by
  subst hsz
  exact appP1 s y t ho hw w base ht A n c xs hs hown pa pj ps py hx hn hbase fun A2 c2 w' h1 h2 _ => h A2 c2 w' h1 h2
end
end Go.Proofs.Ytncnghmadeghlaa
