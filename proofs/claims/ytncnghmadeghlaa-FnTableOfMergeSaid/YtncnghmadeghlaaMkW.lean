/- Memory words for tables and lists that are given by functions of their places. -/
import Derived.Test.YtncnghmadeghlaaMkT
import Derived.Test.YtncnghmadeghlaaMadeT
import Derived.Test.YtncnghmadeghlaaBlk
namespace Go.Proofs.Ytncnghmadeghlaa
open Go.RowKit
set_option linter.unusedVariables false

/-- a valid table -/
structure Good (h wd : Nat) (F : Nat → Nat → Int) : Prop where
  h1 : 1 ≤ h
  h4 : h ≤ 4
  w1 : 1 ≤ wd
  w4 : wd ≤ 4
  lo : ∀ i j, 0 ≤ F i j
  hi : ∀ i j, F i j ≤ 99
theorem Good.valid {h wd : Nat} {F : Nat → Nat → Int} (g : Good h wd F) : tabValid (mkT h wd F) = true := by
  have h1 := g.h1; have h4 := g.h4; have w1 := g.w1; have w4 := g.w4
  rw [tabValid_iff, mkT_len, mkT_wid F (by omega)]
  refine ⟨⟨h1, h4, w1, w4⟩, fun r hr => ?_⟩
  obtain ⟨i, hi, rfl⟩ := mkT_mem.1 hr
  refine ⟨mkL_len _ _, fun x hx => ?_⟩
  obtain ⟨j, hj, rfl⟩ := mkL_mem.1 hx
  exact ⟨g.lo i j, g.hi i j⟩
theorem tab_cases (t : List (List Int)) : tabValid t = false ∨ ∃ h wd F, t = mkT h wd F ∧ Good h wd F := by
  cases hv : tabValid t
  · exact .inl rfl
  · right
    have h := tabValid_iff.1 hv
    refine ⟨t.length, wid t, cel 0 t, rect_mk fun r hr => (h.2 r hr).1, h.1.1, h.1.2.1, h.1.2.2.1, h.1.2.2.2, ?_, ?_⟩
    all_goals
      intro i j
      unfold cel
      by_cases hi : i < t.length
      · have hr : t.getD i [] ∈ t := by rw [List.getD_eq_getElem?_getD, List.getElem?_eq_getElem hi]; exact List.getElem_mem hi
        by_cases hj : j < (t.getD i []).length
        · have hx : (t.getD i []).getD j 0 ∈ t.getD i [] := by rw [List.getD_eq_getElem?_getD (l := t.getD i []), List.getElem?_eq_getElem hj]; exact List.getElem_mem hj
          have := (h.2 _ hr).2 _ hx
          omega
        · rw [List.getD_eq_getElem?_getD (l := t.getD i []), List.getElem?_eq_none (by omega)]; simp
      · rw [List.getD_eq_getElem?_getD (l := t), List.getElem?_eq_none (by omega)]; simp
theorem Good.of_valid {h wd : Nat} {F : Nat → Nat → Int} (hv : tabValid (mkT h wd F) = true) (hF : ∀ i j, ¬ (i < h ∧ j < wd) → F i j = 0) : Good h wd F := by
  have e := tabValid_iff.1 hv
  rw [mkT_len] at e
  rw [mkT_wid F (by omega)] at e
  refine ⟨e.1.1, e.1.2.1, e.1.2.2.1, e.1.2.2.2, ?_, ?_⟩
  all_goals
    intro i j
    by_cases hij : i < h ∧ j < wd
    · have := (e.2 _ (mkT_mem.2 ⟨i, hij.1, rfl⟩)).2 _ (mkL_mem.2 ⟨j, hij.2, rfl⟩)
      omega
    · rw [hF i j hij]; omega

section
variable {α : Type} {f : α → Value} {w w' : World} {A : Option Addr} {t : List (List α)} {E : TypeId} {lo hi : Nat}
/-- the cell of a table that is read -/
theorem Tab.mk {h wd i j : Nat} {F : Nat → Nat → α} (ht : Tab f w A (mkT h wd F)) (hi : i < h) (hj : j < wd) :
    ∃ b o b' o' c, A = some ⟨b, o, none⟩ ∧ b < w.heap.size ∧ w.cell? ⟨b, o + i, none⟩ = some (.slice (some ⟨b', o', none⟩) wd c) ∧ b' < w.heap.size ∧ w.cell? ⟨b', o' + j, none⟩ = some (f (F i j)) ∧ wd ≤ c ∧ c ≤ maxLen := by
  obtain ⟨b, o, r, Ar, cr, e, hb, hr, hc, hL⟩ := ht.at_ (k := i) (by rw [mkT_len]; exact hi)
  rw [mkT_get F hi] at hr
  injection hr with hr
  subst hr
  obtain ⟨b', o', x, rfl, hb', hx, hcx⟩ := hL.1.at_ (k := j) (by rw [mkL_len]; exact hj)
  rw [mkL_get _ hj] at hx
  injection hx with hx
  subst hx
  have h2 := hL.2.1
  rw [mkL_len] at hc h2
  exact ⟨b, o, b', o', cr, e, hb, hc, hb', hcx, h2, hL.2.2.1⟩
/-- the row of a table that is read -/
theorem Tab.mkrow {h wd i : Nat} {F : Nat → Nat → α} (ht : Tab f w A (mkT h wd F)) (hi : i < h) :
    ∃ b o A' c, A = some ⟨b, o, none⟩ ∧ b < w.heap.size ∧ w.cell? ⟨b, o + i, none⟩ = some (.slice A' wd c) ∧ Lst f w A' c (mkL wd (F i)) := by
  obtain ⟨b, o, r, Ar, cr, e, hb, hr, hc, hL⟩ := ht.at_ (k := i) (by rw [mkT_len]; exact hi)
  rw [mkT_get F hi] at hr
  injection hr with hr
  subst hr
  rw [mkL_len] at hc
  exact ⟨b, o, Ar, cr, e, hb, hc, hL⟩
theorem Tab.adr {b o b' o' : Nat} (h : A = some ⟨b, o, none⟩) (h' : A = some ⟨b', o', none⟩) : b' = b ∧ o' = o := by
  rw [h] at h'
  injection h' with h'
  injection h' with h1 h2
  exact ⟨h1.symm, h2.symm⟩
/-- a cell of a table of one's own, and what a store there leaves -/
theorem OwnT.cell_ {h wd g i j : Nat} {vs : Nat → Value} {F : Nat → Nat → α} (ho : OwnT f E lo hi w g vs (mkT h wd F)) (hi' : i < h) (hj : j < wd) :
    ∃ b cap, vs i = .slice (some ⟨b, 0, none⟩) wd cap ∧ lo ≤ b ∧ b < hi ∧ b ≠ g ∧ w.cell? ⟨g, i, none⟩ = some (.slice (some ⟨b, 0, none⟩) wd cap) ∧ w.cell? ⟨b, j, none⟩ = some (f (F i j)) ∧ w.frozen? ⟨b, j, none⟩ = false ∧ (wd ≤ cap ∧ cap ≤ maxLen) ∧
      ∀ x, OwnT f E lo hi (w.setCell ⟨b, j, none⟩ (f x)) g vs (mkT h wd (up2 F i j x)) := by
  obtain ⟨b, cap, e, h1, h2, h3, h4, h5, h6⟩ := ho.spot (mkT_get F hi') (i := j) (by rw [mkL_len]; exact hj)
  have hcap := own_cap (by have := ho.row i _ (mkT_get F hi'); rw [e] at this; exact this)
  rw [mkL_len] at e hcap
  rw [mkL_at] at h4
  refine ⟨b, cap, e, h1, h2, h3, ?_, h4, h5, hcap, fun x => ?_⟩
  · rw [← e]; exact ho.outer i (by rw [mkT_len]; exact hi')
  · have := h6 x
    rwa [mkT_set] at this
/-- a list of one's own, its cell and what a store leaves -/
theorem own_mk {base n k : Nat} {B : Option Addr} {c : Nat} {F : Nat → α} (ho : w.ownsRow base E 1 (.slice B n c) n ((mkL n F).map f)) (hk : k < n) :
    ∃ b, B = some ⟨b, 0, none⟩ ∧ base ≤ b ∧ b < w.heap.size ∧ w.cell? ⟨b, k, none⟩ = some (f (F k)) ∧ w.frozen? ⟨b, k, none⟩ = false ∧
      ∀ x, (w.setCell ⟨b, k, none⟩ (f x)).ownsRow base E 1 (.slice B n c) n ((mkL n (up1 F k x)).map f) := by
  obtain ⟨b, cap, e, h1, h2⟩ := ho.form (by omega)
  injection e with e1 e2 e3
  subst e1
  refine ⟨b, rfl, h1, h2, ?_, ho.frozenAt k, fun x => ?_⟩
  · rw [ho.cellAt k (by omega), List.getElem?_map, mkL_get _ hk]; rfl
  · have := (ho.stored k (f x)).1
    rwa [← List.map_set, mkL_set] at this

/-- a table of one's own, or an empty one -/
def Hold (f : α → Value) (E : TypeId) (lo hi : Nat) (w : World) (A : Option Addr) (t : List (List α)) : Prop :=
  0 < t.length → ∃ g vs, A = some ⟨g, 0, none⟩ ∧ OwnT f E lo hi w g vs t
theorem Hold.nil_ : Hold f E lo hi w A ([] : List (List α)) := fun h => absurd h (by simp)
theorem Hold.of {g : Nat} {vs : Nat → Value} (h : OwnT f E lo hi w g vs t) : Hold f E lo hi w (some ⟨g, 0, none⟩) t := fun _ => ⟨g, vs, rfl, h⟩
theorem Hold.tab (h : Hold f E lo hi w A t) : Tab f w A t := fun hn => by
  obtain ⟨g, vs, rfl, ho⟩ := h hn
  exact ho.tab hn
theorem Hold.below (h : Hold f E lo hi w A t) (hb : Below w.heap.size w w') : Hold f E lo hi w' A t := fun hn => by
  obtain ⟨g, vs, e, ho⟩ := h hn
  exact ⟨g, vs, e, ho.below hb⟩
theorem Hold.turns {lo' hi' : Nat} (h : Hold f E lo hi w A t) (ht : Turns lo' hi' w w') (hd : hi ≤ lo' ∨ hi' ≤ lo) : Hold f E lo hi w' A t := fun hn => by
  obtain ⟨g, vs, e, ho⟩ := h hn
  exact ⟨g, vs, e, ho.turns ht hd⟩
theorem Hold.wide {lo' hi' : Nat} (h : Hold f E lo hi w A t) (h1 : lo' ≤ lo) (h2 : hi ≤ hi') (h3 : hi' ≤ w.heap.size) : Hold f E lo' hi' w A t := fun hn => by
  obtain ⟨g, vs, e, ho⟩ := h hn
  exact ⟨g, vs, e, ho.wide h1 h2 h3⟩
/-- what a call leaves that returns a table in new memory and a flag -/
def GotT (f : α → Value) (E : TypeId) (w : World) (t : List (List α)) (ok : Bool) (e : Ending) (w' : World) : Prop :=
  ∃ A c, e = .returned (.tuple #[.slice A t.length c, .bool ok]) ∧ (t.length ≤ c ∧ c ≤ maxLen ∧ (A = none → c = 0)) ∧ Hold f E w.heap.size w'.heap.size w' A t ∧ Below w.heap.size w w'
/-- what a call leaves that returns two lists in new memory and a flag -/
def GotLL (f : α → Value) (E : TypeId) (w : World) (xs ys : List α) (ok : Bool) (e : Ending) (w' : World) : Prop :=
  ∃ A c B d, e = .returned (.tuple #[.slice A xs.length c, .slice B ys.length d, .bool ok]) ∧ w'.ownsRow w.heap.size E 1 (.slice A xs.length c) xs.length (xs.map f) ∧ w'.ownsRow w.heap.size E 1 (.slice B ys.length d) ys.length (ys.map f) ∧
    (∀ b, (Value.slice A xs.length c).ownBlock = some b → (Value.slice B ys.length d).ownBlock ≠ some b) ∧ Below w.heap.size w w'
end
theorem hp_alloc (w : World) (o : Obj) (i : Nat) : (w.alloc o).heap[i]? = if i = w.heap.size then some o else w.heap[i]? := by
  split
  · next h => subst h; exact heap_alloc_new w o
  · next h =>
    rcases Nat.lt_or_ge i w.heap.size with hl | hl
    · exact Below.heap_alloc w o i hl
    · rw [Array.getElem?_eq_none (by simp; omega), Array.getElem?_eq_none (by omega)]
theorem hp_drew (w : World) (i : Nat) : w.drew.heap[i]? = w.heap[i]? := rfl
theorem ret_tup {a b : Array Value} (h : a = b) : Ending.returned (.tuple a) = .returned (.tuple b) := by rw [h]
end Go.Proofs.Ytncnghmadeghlaa
