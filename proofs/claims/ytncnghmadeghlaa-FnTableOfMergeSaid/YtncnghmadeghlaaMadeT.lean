/- Words for tables that a call makes, and for equal tables. -/
import Derived.Test.YtncnghmadeghlaaTab
namespace Go.Proofs.Ytncnghmadeghlaa
open Go.RowKit
set_option linter.unusedVariables false
/-- a table in new memory -/
def MadeT {α : Type} (f : α → Value) (E : TypeId) (w : World) (t : List (List α)) (e : Ending) (w' : World) : Prop :=
  ∃ g c vs, e = .returned (.slice (some ⟨g, 0, none⟩) t.length c) ∧ (t.length ≤ c ∧ c ≤ maxLen) ∧ OwnT f E w.heap.size w'.heap.size w' g vs t ∧ Below w.heap.size w w'

/-- a table under construction: the first k rows are there -/
structure Half {α : Type} (f : α → Value) (T E : TypeId) (w wr : World) (n : Nat) (k : Nat) (vs : Nat → Value) (t : List (List α)) : Prop where
  outer : wr.ownsRow w.heap.size T 1 (.slice (some ⟨w.heap.size, 0, none⟩) n n) n ((List.range k).map vs ++ List.replicate (n - k) (.slice none 0 0))
  row : ∀ j r, j < k → t[j]? = some r → wr.ownsRow w.heap.size E 1 (vs j) r.length (r.map f)
  top : ∀ j b, j < k → (vs j).ownBlock = some b → b < wr.heap.size ∧ b ≠ w.heap.size
  far : ∀ i j b, i < k → j < k → i ≠ j → (vs i).ownBlock = some b → (vs j).ownBlock ≠ some b
  bel : Below w.heap.size w wr
theorem Half.lt {α : Type} {f : α → Value} {T E : TypeId} {w wr : World} {n k : Nat} {vs : Nat → Value} {t : List (List α)} (h : Half f T E w wr n k vs t) : w.heap.size < wr.heap.size := (own_lt h.outer).2
theorem Half.step {α : Type} {f : α → Value} {T E : TypeId} {w wr w1 : World} {n k : Nat} {vs : Nat → Value} {t : List (List α)} (h : Half f T E w wr n k vs t) (hk : k < n) {r : List α} (hr : t[k]? = some r) {v : Value}
    (ho : w1.ownsRow wr.heap.size E 1 v r.length (r.map f)) (hb : Below wr.heap.size wr w1) :
    Half f T E w (w1.setCell ⟨w.heap.size, k, none⟩ v) n (k + 1) (fun j => if j = k then v else vs j) t := by
  have hlt := h.lt
  have hsz := hb.size
  have houter := own_below h.outer hb
  have hne : ∀ b, v.ownBlock = some b → b ≠ w.heap.size := fun b hb' e => by have := (ho.lt b hb').1; omega
  refine ⟨?_, ?_, ?_, ?_, (h.bel.trans (hb.mono h.bel.size)).setCell (Nat.le_refl _) _⟩
  · have := (houter.stored k v).1
    have e : ((List.range k).map vs ++ List.replicate (n - k) (Value.slice none 0 0)).set k v = (List.range (k + 1)).map (fun j => if j = k then v else vs j) ++ List.replicate (n - (k + 1)) (Value.slice none 0 0) := by
      rw [List.range_succ, List.map_append]
      have e1 : (List.range k).map (fun j => if j = k then v else vs j) = (List.range k).map vs := List.map_congr_left fun j hj => by
        have := List.mem_range.1 hj
        rw [if_neg (by omega)]
      rw [e1]
      obtain ⟨m, hm⟩ : ∃ m, n - k = m + 1 := ⟨n - k - 1, by omega⟩
      rw [hm, show n - (k + 1) = m by omega, List.replicate_succ, List.set_append, if_neg (by simp), List.length_map, List.length_range, Nat.sub_self]
      simp
    rw [e] at this
    exact this
  · intro j q hj hq
    by_cases hjk : j = k
    · subst hjk
      rw [hr] at hq
      injection hq with hq
      subst hq
      simp only [if_true]
      exact own_keep (own_lower ho (by omega)) fun b hb' => Below.heap_setCell w1 _ _ b (hne b hb')
    · simp only [if_neg hjk]
      have h1 := own_below (h.row j q (by omega) hq) hb
      exact own_keep h1 fun b hb' => Below.heap_setCell w1 _ _ b (h.top j b (by omega) hb').2
  · intro j b hj hb'
    simp only [World.setCell, Array.size_modify] at *
    by_cases hjk : j = k
    · subst hjk
      simp only [if_true] at hb'
      exact ⟨(ho.lt b hb').2, hne b hb'⟩
    · simp only [if_neg hjk] at hb'
      have := h.top j b (by omega) hb'
      exact ⟨by omega, this.2⟩
  · intro i j b hi hj hne' hb' hc
    by_cases hik : i = k
    · subst hik
      simp only [if_true, if_neg (fun e => hne' e.symm : ¬ j = i)] at hb' hc
      have h1 := (ho.lt b hb').1
      have h2 := (h.top j b (by omega) hc).1
      omega
    · by_cases hjk : j = k
      · subst hjk
        simp only [if_true, if_neg hik] at hb' hc
        have h1 := (ho.lt b hc).1
        have h2 := (h.top i b (by omega) hb').1
        omega
      · simp only [if_neg hik, if_neg hjk] at hb' hc
        exact h.far i j b (by omega) (by omega) hne' hb' hc
theorem Half.done {α : Type} {f : α → Value} {T E : TypeId} {w wr : World} {vs : Nat → Value} {t : List (List α)} (h : Half f T E w wr t.length t.length vs t) : OwnT f E w.heap.size wr.heap.size wr w.heap.size vs t where
  gin := ⟨Nat.le_refl _, h.lt⟩
  hin := Nat.le_refl _
  outer j hj := by
    rw [h.outer.cellAt j (by omega)]
    simp [hj]
  row j r hr := h.row j r (List.getElem?_eq_some_iff.1 hr).1 hr
  top j b hj hb := h.top j b hj hb
  far i j b hi hj hne hb := h.far i j b hi hj hne hb
theorem Half.start {α : Type} {f : α → Value} {T E : TypeId} (w : World) (n : Nat) (t : List (List α)) (hn : n ≤ maxLen) : Half f T E w (w.alloc (.cells (madeCells #[.slice none 0 0] n) T)) n 0 (fun _ => undef) t where
  outer := by simpa using own_made w (.slice none 0 0) n T hn
  row j r hj := by omega
  top j b hj := by omega
  far i j b hi := by omega
  bel := (Below.refl _ _).alloc (Nat.le_refl _) _

def eqT {α : Type} [DecidableEq α] (t s : List (List α)) : Bool := decide (t = s)
theorem eqT_same {α : Type} [DecidableEq α] (t : List (List α)) : eqT t t = true := by simp [eqT]
theorem eqT_step {α : Type} {t s : List (List α)} {k : Nat} {x y : List α} (hx : t[k]? = some x) (hy : s[k]? = some y) (hP : t.take k = s.take k) (h : x = y) : t.take (k + 1) = s.take (k + 1) := by
  rw [take_snoc' hx, take_snoc' hy, hP, h]
theorem eqT_bad {α : Type} [DecidableEq α] {t s : List (List α)} {k : Nat} {x y : List α} (hx : t[k]? = some x) (hy : s[k]? = some y) (h : x ≠ y) : eqT t s = false := by
  simp only [eqT, decide_eq_false_iff_not]
  rintro rfl
  rw [hx] at hy
  injection hy with hy
  exact h hy
theorem eqT_end {α : Type} [DecidableEq α] {t s : List (List α)} {k : Nat} (hl : t.length = s.length) (hk : ¬ k < t.length) (hP : t.take k = s.take k) : eqT t s = true := by
  rw [List.take_of_length_le (by omega), List.take_of_length_le (by omega)] at hP
  simp [eqT, hP]
theorem eqT_len {α : Type} [DecidableEq α] {t s : List (List α)} (hl : t.length ≠ s.length) : eqT t s = false := by
  simp only [eqT, decide_eq_false_iff_not]
  rintro rfl
  exact hl rfl
end Go.Proofs.Ytncnghmadeghlaa
