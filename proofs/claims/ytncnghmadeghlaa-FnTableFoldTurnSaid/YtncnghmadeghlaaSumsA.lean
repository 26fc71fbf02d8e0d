/- Contracts of TableSums and TableTotal for all tables. -/
import Derived.Test.YtncnghmadeghlaaSumsS
namespace Go.Proofs.Ytncnghmadeghlaa
open Go.RowKit
set_option linter.unusedVariables false
def totT (t : List (List Int)) : Int := if tabValid t then tot t.length (wid t) (cel 0 t) else -1
def rowsT (t : List (List Int)) : List Int := if tabValid t then rowL t.length (wid t) (cel 0 t) else []
def colsT (t : List (List Int)) : List Int := if tabValid t then colL t.length (wid t) (cel 0 t) else []
theorem totT_no {t : List (List Int)} (h : tabValid t = false) : totT t = -1 := by simp [totT, h]
theorem rowsT_no {t : List (List Int)} (h : tabValid t = false) : rowsT t = [] := by simp [rowsT, h]
theorem colsT_no {t : List (List Int)} (h : tabValid t = false) : colsT t = [] := by simp [colsT, h]
theorem rowsT_yes {h wd : Nat} {G : Nat → Nat → Int} (g : Good h wd G) : rowsT (mkT h wd G) = rowL h wd G := by
  rw [rowsT, if_pos g.valid, mkT_len, mkT_wid _ g.h1]
  exact mkL_ext fun i hi => sumN_ext fun j hj => cel_mk hi hj
theorem colsT_yes {h wd : Nat} {G : Nat → Nat → Int} (g : Good h wd G) : colsT (mkT h wd G) = colL h wd G := by
  rw [colsT, if_pos g.valid, mkT_len, mkT_wid _ g.h1]
  exact mkL_ext fun j hj => sumN_ext fun i hi => cel_mk hi hj
theorem totT_yes {h wd : Nat} {G : Nat → Nat → Int} (g : Good h wd G) : totT (mkT h wd G) = tot h wd G := by
  rw [totT, if_pos g.valid, mkT_len, mkT_wid _ g.h1]
  exact sumN_ext fun i hi => sumN_ext fun j hj => cel_mk hi hj
theorem totT_range (t : List (List Int)) : -1 ≤ totT t ∧ totT t ≤ 1584 := by
  rcases tab_cases t with hv | ⟨h, wd, G, rfl, g⟩
  · rw [totT_no hv]; omega
  · rw [totT_yes g]; have := tot_range g; omega
theorem rowsT_len (t : List (List Int)) : (rowsT t).length ≤ 4 := by
  rcases tab_cases t with hv | ⟨h, wd, G, rfl, g⟩
  · rw [rowsT_no hv]; simp
  · rw [rowsT_yes g, rowL, mkL_len]; exact g.h4
theorem colsT_len (t : List (List Int)) : (colsT t).length ≤ 4 := by
  rcases tab_cases t with hv | ⟨h, wd, G, rfl, g⟩
  · rw [colsT_no hv]; simp
  · rw [colsT_yes g, colL, mkL_len]; exact g.w4
/-- two lists that can be read, and a flag -/
def SeeLL (w : World) (xs ys : List Int) (ok : Bool) (e : Ending) (w' : World) : Prop :=
  ∃ A c B d, e = .returned (.tuple #[.slice A xs.length c, .slice B ys.length d, .bool ok]) ∧ Lst IntV w' A c xs ∧ Lst IntV w' B d ys ∧ Below w.heap.size w w'
theorem own_nil (w : World) (base : Nat) (E : TypeId) : w.ownsRow base E 1 (.slice none 0 0) 0 [] := ⟨rfl, .inl ⟨rfl, rfl⟩⟩
theorem Lst.zero {α : Type} {f : α → Value} (w : World) (A : Option Addr) : Lst f w A 0 ([] : List α) := ⟨Seq.nil_, by simp, by unfold maxLen; omega, fun _ => rfl⟩
theorem implSums_any (A : Option Addr) (c : Nat) (t : List (List Int)) (w : World) (hx : Tab IntV w A t) (hl : t.length ≤ maxLen) :
    Calls Try.prog 31 #[.slice A t.length c] w (GotLL IntV 3 w (rowsT t) (colsT t) (tabValid t)) := by
  rcases tab_cases t with hv | ⟨h, wd, G, rfl, g⟩
  · refine (implSums_no A c t w hx hl hv).mono ?_
    rintro e w' ⟨rfl, rfl⟩
    rw [rowsT_no hv, colsT_no hv, hv]
    exact ⟨none, 0, none, 0, rfl, own_nil _ _ _, own_nil _ _ _, fun b e => by simp [Value.ownBlock] at e, Below.refl _ _⟩
  · rw [mkT_len, rowsT_yes g, colsT_yes g, g.valid]
    exact implSums_yes A c h wd G w hx g
theorem specSums_any (A : Option Addr) (c : Nat) (t : List (List Int)) (w : World) (hx : Tab IntV w A t) (hl : t.length ≤ maxLen) :
    Calls Try.prog 69 #[.slice A t.length c] w (SeeLL w (rowsT t) (colsT t) (tabValid t)) := by
  rcases tab_cases t with hv | ⟨h, wd, G, rfl, g⟩
  · refine (specSums_no A c t w hx hl hv).mono ?_
    rintro e w' ⟨a, b, rfl, hb⟩
    rw [rowsT_no hv, colsT_no hv, hv]
    exact ⟨a, 0, b, 0, rfl, Lst.zero _ _, Lst.zero _ _, hb⟩
  · rw [mkT_len, rowsT_yes g, colsT_yes g, g.valid]
    refine (specSums_yes A c h wd G w hx g).mono ?_
    rintro e w' ⟨A1, c1, B1, d1, rfl, o1, o2, _, hb⟩
    exact ⟨A1, c1, B1, d1, rfl, Lst.of_own o1, Lst.of_own o2, hb⟩
theorem implTotal_any (A : Option Addr) (c : Nat) (t : List (List Int)) (w : World) (hx : Tab IntV w A t) (hl : t.length ≤ maxLen) :
    Calls Try.prog 30 #[.slice A t.length c] w (Gives (.int .i64 (totT t)) w) := by
  rcases tab_cases t with hv | ⟨h, wd, G, rfl, g⟩
  · rw [totT_no hv]
    exact (implTotal_no A c t w hx hl hv).mono fun e w' h => gives_same h
  · rw [mkT_len, totT_yes g]
    exact implTotal_yes A c h wd G w hx g
end Go.Proofs.Ytncnghmadeghlaa
