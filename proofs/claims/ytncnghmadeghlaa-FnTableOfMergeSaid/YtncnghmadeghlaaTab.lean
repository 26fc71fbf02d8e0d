/- Memory words for slices of slices: a table that is read, a table of the call's own. -/
import Derived.Test.YtncnghmadeghlaaLst
namespace Go.Proofs.Ytncnghmadeghlaa
open Go.RowKit
set_option linter.unusedVariables false

/-- the slice value reads as a list of rows -/
def Tab {α : Type} (f : α → Value) (w : World) (A : Option Addr) (t : List (List α)) : Prop :=
  0 < t.length → ∃ b o, A = some ⟨b, o, none⟩ ∧ b < w.heap.size ∧ ∀ j r, t[j]? = some r → ∃ Ar cr, w.cell? ⟨b, o + j, none⟩ = some (.slice Ar r.length cr) ∧ Lst f w Ar cr r
section
variable {α : Type} {f : α → Value} {w w' : World} {A : Option Addr} {t : List (List α)}
theorem Tab.nil_ : Tab f w A ([] : List (List α)) := fun h => absurd h (by simp)
theorem Tab.at_ {k : Nat} (h : Tab f w A t) (hk : k < t.length) : ∃ b o r Ar cr, A = some ⟨b, o, none⟩ ∧ b < w.heap.size ∧ t[k]? = some r ∧ w.cell? ⟨b, o + k, none⟩ = some (.slice Ar r.length cr) ∧ Lst f w Ar cr r := by
  obtain ⟨b, o, e, hb, hc⟩ := h (by omega)
  obtain ⟨Ar, cr, h1, h2⟩ := hc k _ (List.getElem?_eq_getElem hk)
  exact ⟨b, o, t[k], Ar, cr, e, hb, List.getElem?_eq_getElem hk, h1, h2⟩
theorem Tab.below (h : Tab f w A t) (hb : Below w.heap.size w w') : Tab f w' A t := fun hn => by
  obtain ⟨b, o, e, hlt, hc⟩ := h hn
  refine ⟨b, o, e, by have := hb.size; omega, fun j r hr => ?_⟩
  obtain ⟨Ar, cr, h1, h2⟩ := hc j r hr
  exact ⟨Ar, cr, (hb.cell (p := ⟨b, o + j, none⟩) hlt).trans h1, h2.below hb⟩
theorem Tab.take (h : Tab f w A t) (k : Nat) : Tab f w A (t.take k) := fun hn => by
  have hl : 0 < t.length := by simp at hn; omega
  obtain ⟨b, o, e, hb, hc⟩ := h hl
  refine ⟨b, o, e, hb, fun j x hx => hc j x ?_⟩
  rw [List.getElem?_take] at hx
  split at hx
  · exact hx
  · cases hx
theorem Tab.drop (h : Tab f w A t) {k cap : Nat} (hc : t.length ≤ cap) : Tab f w (if cap = k then A else A.map (·.add k)) (t.drop k) := fun hn => by
  have hl : k < t.length := by simp at hn; omega
  obtain ⟨b, o, rfl, hb, hcell⟩ := h (by omega)
  rw [if_neg (by omega)]
  by_cases hk : k = 0
  · subst hk
    exact ⟨b, o, by simp [Addr.add], hb, fun j x hx => hcell j x (by simpa using hx)⟩
  · refine ⟨b, o + k, by simp [Addr.add, hk], hb, fun j x hx => ?_⟩
    rw [Nat.add_assoc]
    exact hcell (k + j) x (by simpa [List.getElem?_drop] using hx)
end

/-- a table of the call's own: the outer block g, the rows' values vs; all blocks lie from lo to hi -/
structure OwnT {α : Type} (f : α → Value) (E : TypeId) (lo hi : Nat) (w : World) (g : Nat) (vs : Nat → Value) (t : List (List α)) : Prop where
  gin : lo ≤ g ∧ g < hi
  hin : hi ≤ w.heap.size
  outer : ∀ j, j < t.length → w.cell? ⟨g, j, none⟩ = some (vs j)
  row : ∀ j r, t[j]? = some r → w.ownsRow lo E 1 (vs j) r.length (r.map f)
  top : ∀ j b, j < t.length → (vs j).ownBlock = some b → b < hi ∧ b ≠ g
  far : ∀ i j b, i < t.length → j < t.length → i ≠ j → (vs i).ownBlock = some b → (vs j).ownBlock ≠ some b

section
variable {α : Type} {f : α → Value} {E : TypeId} {lo hi : Nat} {w w' : World} {g : Nat} {vs : Nat → Value} {t : List (List α)}
theorem own_keep {base n : Nat} {v : Value} {xs : List Value} (h : w.ownsRow base E 1 v n xs) (hk : ∀ b, v.ownBlock = some b → w'.heap[b]? = w.heap[b]?) : w'.ownsRow base E 1 v n xs := by
  refine ⟨h.1, h.2.imp id ?_⟩
  rintro ⟨b, cap, cur, h1, h2, h3, h4⟩
  exact ⟨b, cap, cur, h1, h2, (hk b (by rw [h1]; rfl)).trans h3, h4⟩
theorem OwnT.keep (h : OwnT f E lo hi w g vs t) (hs : w.heap.size ≤ w'.heap.size) (hk : ∀ i, lo ≤ i → i < hi → w'.heap[i]? = w.heap[i]?) : OwnT f E lo hi w' g vs t where
  gin := h.gin
  hin := Nat.le_trans h.hin hs
  outer j hj := (World.cell?_of_block (w := w) (a := ⟨g, j, none⟩) (hk g h.gin.1 h.gin.2)).trans (h.outer j hj)
  row j r hr := own_keep (h.row j r hr) fun b hb => hk b ((h.row j r hr).lt b hb).1 (h.top j b (List.getElem?_eq_some_iff.1 hr).1 hb).1
  top := h.top
  far := h.far
theorem OwnT.below (h : OwnT f E lo hi w g vs t) (hb : Below w.heap.size w w') : OwnT f E lo hi w' g vs t :=
  h.keep hb.size fun i _ hi' => hb.block i (Nat.lt_of_lt_of_le hi' h.hin)
theorem OwnT.below' {B : Nat} (h : OwnT f E lo hi w g vs t) (hb : Below B w w') (hB : hi ≤ B) : OwnT f E lo hi w' g vs t :=
  h.keep hb.size fun i _ hi' => hb.block i (Nat.lt_of_lt_of_le hi' hB)
theorem OwnT.wide {lo' hi' : Nat} (h : OwnT f E lo hi w g vs t) (h1 : lo' ≤ lo) (h2 : hi ≤ hi') (h3 : hi' ≤ w.heap.size) : OwnT f E lo' hi' w g vs t where
  gin := ⟨Nat.le_trans h1 h.gin.1, Nat.lt_of_lt_of_le h.gin.2 h2⟩
  hin := h3
  outer := h.outer
  row j r hr := own_lower (h.row j r hr) h1
  top j b hj hb := ⟨Nat.lt_of_lt_of_le (h.top j b hj hb).1 h2, (h.top j b hj hb).2⟩
  far := h.far
theorem OwnT.val (h : OwnT f E lo hi w g vs t) {j : Nat} {r : List α} (hr : t[j]? = some r) : ∃ A c, vs j = .slice A r.length c ∧ Lst f w A c r := by
  have ho := h.row j r hr
  obtain ⟨A, c, e, _⟩ := own_slice ho
  rw [e] at ho
  exact ⟨A, c, e, Lst.of_own ho⟩
theorem OwnT.tab (h : OwnT f E lo hi w g vs t) : Tab f w (some ⟨g, 0, none⟩) t := fun hn => by
  refine ⟨g, 0, rfl, Nat.lt_of_lt_of_le h.gin.2 h.hin, fun j r hr => ?_⟩
  obtain ⟨A, c, e, hl⟩ := h.val hr
  refine ⟨A, c, ?_, hl⟩
  rw [Nat.zero_add, ← e]
  exact h.outer j (List.getElem?_eq_some_iff.1 hr).1
/-- a cell of a row, and what a store there leaves -/
theorem OwnT.spot (h : OwnT f E lo hi w g vs t) {j i : Nat} {r : List α} (hr : t[j]? = some r) (hi' : i < r.length) :
    ∃ b cap, vs j = .slice (some ⟨b, 0, none⟩) r.length cap ∧ lo ≤ b ∧ b < hi ∧ b ≠ g ∧ w.cell? ⟨b, i, none⟩ = some (f r[i]) ∧ w.frozen? ⟨b, i, none⟩ = false ∧
      ∀ x, OwnT f E lo hi (w.setCell ⟨b, i, none⟩ (f x)) g vs (t.set j (r.set i x)) := by
  have ho := h.row j r hr
  have hj := (List.getElem?_eq_some_iff.1 hr).1
  obtain ⟨b, cap, e, hb1, hb2⟩ := ho.form (by omega)
  have hob : (vs j).ownBlock = some b := by rw [e]; rfl
  have htop := h.top j b hj hob
  rw [e] at ho
  refine ⟨b, cap, e, hb1, htop.1, htop.2, ?_, ho.frozenAt i, fun x => ?_⟩
  · rw [ho.cellAt i (by omega)]
    simp [hi']
  · refine ⟨h.gin, by simpa [World.setCell] using h.hin, fun k hk => ?_, fun k q hq => ?_, fun k b' hk hb' => h.top k b' (by simpa using hk) hb', fun a k b' ha hk hne hb' => h.far a k b' (by simpa using ha) (by simpa using hk) hne hb'⟩
    · have hk' : k < t.length := by simpa using hk
      rw [World.cell?_of_block (w := w) (a := ⟨g, k, none⟩) (Below.heap_setCell w _ _ g (fun e => htop.2 e.symm))]
      exact h.outer k hk'
    · rw [List.getElem?_set] at hq
      by_cases hkj : j = k
      · subst hkj
        rw [if_pos rfl, if_pos hj] at hq
        injection hq with hq
        subst hq
        have := (ho.stored i (f x)).1
        rw [e]
        simpa [List.map_set] using this
      · rw [if_neg hkj] at hq
        have hk' := (List.getElem?_eq_some_iff.1 hq).1
        refine own_keep (h.row k q hq) fun b' hb' => Below.heap_setCell w _ _ b' ?_
        intro e2
        simp at e2
        subst e2
        exact h.far k j b' hk' hj (fun e => hkj e.symm) hb' hob
end

/-- a frame: blocks outside lo to hi stay -/
structure Turns (lo hi : Nat) (w w' : World) : Prop where
  os : w'.os = w.os
  tape : w'.tape = w.tape
  output : w'.output = w.output
  size : w.heap.size ≤ w'.heap.size
  block : ∀ i, i < w.heap.size → (i < lo ∨ hi ≤ i) → w'.heap[i]? = w.heap[i]?
theorem Turns.refl (lo hi : Nat) (w : World) : Turns lo hi w w := ⟨rfl, rfl, rfl, Nat.le_refl _, fun _ _ _ => rfl⟩
theorem Turns.trans {lo hi : Nat} {a b c : World} (h : Turns lo hi a b) (k : Turns lo hi b c) : Turns lo hi a c :=
  ⟨k.os.trans h.os, k.tape.trans h.tape, k.output.trans h.output, Nat.le_trans h.size k.size, fun i hi' ho => (k.block i (Nat.lt_of_lt_of_le hi' h.size) ho).trans (h.block i hi' ho)⟩
theorem Turns.setCell {lo hi : Nat} {a w : World} (h : Turns lo hi a w) {p : Addr} (h1 : lo ≤ p.block) (h2 : p.block < hi) (u : Value) : Turns lo hi a (w.setCell p u) :=
  ⟨h.os, h.tape, h.output, by simpa [World.setCell] using h.size, fun i hi' ho => (Below.heap_setCell w p u i (by omega)).trans (h.block i hi' ho)⟩
theorem Turns.drewN {lo hi : Nat} {a w : World} (h : Turns lo hi a w) (n : Nat) : Turns lo hi a (w.drewN n) := ⟨h.os, h.tape, h.output, h.size, h.block⟩
theorem Turns.below {lo hi : Nat} {w w' : World} (h : Turns lo hi w w') {B : Nat} (hB : B ≤ lo) (hw : B ≤ w.heap.size) : Below B w w' :=
  ⟨h.os, h.tape, h.output, h.size, fun k hk => h.block k (by omega) (by omega)⟩
theorem OwnT.turns {α : Type} {f : α → Value} {E : TypeId} {lo hi lo' hi' : Nat} {w w' : World} {g : Nat} {vs : Nat → Value} {t : List (List α)} (h : OwnT f E lo hi w g vs t) (ht : Turns lo' hi' w w') (hd : hi ≤ lo' ∨ hi' ≤ lo) : OwnT f E lo hi w' g vs t :=
  h.keep ht.size fun i h1 h2 => ht.block i (Nat.lt_of_lt_of_le h2 h.hin) (by omega)
end Go.Proofs.Ytncnghmadeghlaa
