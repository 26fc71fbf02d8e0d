/- Plain words on folding: two rows are added up in the place of the first one. -/
import Derived.Test.YtncnghmadeghlaaMkW
namespace Go.Proofs.Ytncnghmadeghlaa
open Go.RowKit
set_option linter.unusedVariables false
/-- the place of a row before row b went -/
def skp (b i : Nat) : Nat := if i < b then i else i + 1
theorem skp_lt {b i h : Nat} (hb : b < h) (hi : i < h - 1) : skp b i < h := by unfold skp; split <;> omega
theorem skp_ne {b i : Nat} : skp b i ≠ b := by unfold skp; split <;> omega
theorem skp_inj {b i j : Nat} (e : skp b i = skp b j) : i = j := by unfold skp at e; split at e <;> split at e <;> omega
theorem skp_low {b i : Nat} (h : i < b) : skp b i = i := by simp [skp, h]
theorem erase_at {α : Type} (us : List α) {b j : Nat} (hb : b < us.length) : (us.eraseIdx b)[j]? = us[skp b j]? := by
  rw [List.getElem?_eraseIdx, skp]
  split <;> rfl
theorem take_drop_at {α : Type} (us : List α) {b j : Nat} (hb : b < us.length) : (us.take b ++ us.drop (b + 1))[j]? = us[skp b j]? := by
  rw [← List.eraseIdx_eq_take_drop_succ, erase_at us hb]
/-- a row is left out -/
theorem mkT_skip {α : Type} {h wd b : Nat} (F : Nat → Nat → α) (hb : b < h) : (mkT h wd F).take b ++ (mkT h wd F).drop (b + 1) = mkT (h - 1) wd (fun i => F (skp b i)) := by
  apply List.ext_getElem?
  intro j
  rw [take_drop_at _ (by rw [mkT_len]; exact hb)]
  by_cases hj : j < h - 1
  · rw [mkT_get _ hj, mkT_get _ (skp_lt hb hj)]
  · have h2 : h ≤ skp b j := by unfold skp; split <;> omega
    rw [List.getElem?_eq_none (by rw [mkT_len]; exact h2), List.getElem?_eq_none (by rw [mkT_len]; omega)]
/-- the folded table, while its first k cells of the sum are there -/
def fdK (F : Nat → Nat → Int) (a b k : Nat) : Nat → Nat → Int := fun i j => if i = a ∧ j < k then F a j + F b j else F (skp b i) j
def fdF (F : Nat → Nat → Int) (a b : Nat) : Nat → Nat → Int := fun i j => if i = a then F a j + F b j else F (skp b i) j
theorem fdK_zero (F : Nat → Nat → Int) (a b : Nat) : fdK F a b 0 = fun i => F (skp b i) := by funext i j; simp [fdK]
theorem fdK_step (F : Nat → Nat → Int) (a b k : Nat) : up2 (fdK F a b k) a k (F a k + F b k) = fdK F a b (k + 1) := by
  funext i j
  unfold up2 fdK
  by_cases e : i = a ∧ j = k
  · obtain ⟨rfl, rfl⟩ := e; simp
  · rw [if_neg e]
    by_cases e2 : i = a ∧ j < k
    · rw [if_pos e2, if_pos ⟨e2.1, by omega⟩]
    · rw [if_neg e2, if_neg (fun x => e2 ⟨x.1, by have : ¬ j = k := fun y => e ⟨x.1, y⟩; omega⟩)]
theorem fdK_at {F : Nat → Nat → Int} {a b k : Nat} (hab : a < b) : fdK F a b k a k = F a k := by simp [fdK, skp_low hab]
theorem fdK_all {h wd : Nat} (F : Nat → Nat → Int) (a b : Nat) : mkT h wd (fdK F a b wd) = mkT h wd (fdF F a b) := mkT_ext fun i j hi hj => by
  unfold fdK fdF
  by_cases e : i = a
  · rw [if_pos ⟨e, hj⟩, if_pos e]
  · rw [if_neg (fun x => e x.1), if_neg e]
/-- the same, row b still there -/
def adK (F : Nat → Nat → Int) (a b k : Nat) : Nat → Nat → Int := fun i j => if i = a ∧ j < k then F a j + F b j else F i j
theorem adK_zero (F : Nat → Nat → Int) (a b : Nat) : adK F a b 0 = F := by funext i j; simp [adK]
theorem adK_step (F : Nat → Nat → Int) (a b k : Nat) : up2 (adK F a b k) a k (F a k + F b k) = adK F a b (k + 1) := by
  funext i j
  unfold up2 adK
  by_cases e : i = a ∧ j = k
  · obtain ⟨rfl, rfl⟩ := e; simp
  · rw [if_neg e]
    by_cases e2 : i = a ∧ j < k
    · rw [if_pos e2, if_pos ⟨e2.1, by omega⟩]
    · rw [if_neg e2, if_neg (fun x => e2 ⟨x.1, by have : ¬ j = k := fun y => e ⟨x.1, y⟩; omega⟩)]
theorem adK_at {F : Nat → Nat → Int} {a b k : Nat} : adK F a b k a k = F a k := by simp [adK]
theorem adK_other {F : Nat → Nat → Int} {a b k : Nat} (hab : a < b) : adK F a b k b k = F b k := by simp [adK, show ¬ b = a by omega]
theorem adK_skip {h wd : Nat} (F : Nat → Nat → Int) {a b : Nat} (hab : a < b) : mkT (h - 1) wd (fun i => adK F a b wd (skp b i)) = mkT (h - 1) wd (fdF F a b) := mkT_ext fun i j hi hj => by
  unfold adK fdF
  have e1 : skp b i = a ↔ i = a := ⟨fun e => by unfold skp at e; split at e <;> omega, fun e => by rw [e]; exact skp_low hab⟩
  by_cases e : i = a
  · rw [if_pos ⟨e1.2 e, hj⟩, if_pos e]
  · rw [if_neg (fun x => e (e1.1 x.1)), if_neg e]
/-- the arguments are a table and two of its rows in order -/
def foldIn (t : List (List Int)) (a b : Int) : Bool := tabValid t && decide (0 ≤ a ∧ a < b ∧ b < (t.length : Int))
def foldR (t : List (List Int)) (a b : Int) : List (List Int) := mkT (t.length - 1) (wid t) (fdF (cel 0 t) a.toNat b.toNat)
def foldOk (t : List (List Int)) (a b : Int) : Bool := foldIn t a b && tabValid (foldR t a b)
def foldT (t : List (List Int)) (a b : Int) : List (List Int) := if foldOk t a b then foldR t a b else []
theorem fold_no {t : List (List Int)} {a b : Int} (h : foldOk t a b = false) : foldT t a b = [] := by simp [foldT, h]
theorem fold_mk {h wd a b : Nat} {G : Nat → Nat → Int} (gd : Good h wd G) (hab : a < b) (hb : b < h) : foldR (mkT h wd G) a b = mkT (h - 1) wd (fdF G a b) := by
  rw [foldR, mkT_len, mkT_wid _ gd.h1]
  refine mkT_ext fun i j hi hj => ?_
  simp only [fdF, Int.toNat_natCast]
  rw [cel_mk (by omega) hj, cel_mk hb hj, cel_mk (skp_lt hb hi) hj]
theorem fold_ok {h wd a b : Nat} {G : Nat → Nat → Int} (gd : Good h wd G) (hab : a < b) (hb : b < h) : foldOk (mkT h wd G) a b = tabValid (mkT (h - 1) wd (fdF G a b)) := by
  rw [foldOk, fold_mk gd hab hb, foldIn, gd.valid, mkT_len, decide_eq_true (by omega)]
  rfl
theorem fold_cases (t : List (List Int)) (a b : Int) : (foldIn t a b = false ∧ foldOk t a b = false ∧ foldT t a b = []) ∨ ∃ h wd G, ∃ p q : Nat, t = mkT h wd G ∧ Good h wd G ∧ a = (p : Int) ∧ b = (q : Int) ∧ p < q ∧ q < h := by
  cases hi : foldIn t a b
  · have h2 : foldOk t a b = false := by rw [foldOk, hi]; rfl
    exact .inl ⟨rfl, h2, fold_no h2⟩
  · right
    rw [foldIn, Bool.and_eq_true, decide_eq_true_eq] at hi
    rcases tab_cases t with hv | ⟨h, wd, G, rfl, gd⟩
    · rw [hv] at hi; cases hi.1
    · obtain ⟨p, rfl⟩ := Int.eq_ofNat_of_zero_le hi.2.1
      obtain ⟨q, rfl⟩ := Int.eq_ofNat_of_zero_le (show 0 ≤ b by omega)
      rw [mkT_len] at hi
      exact ⟨h, wd, G, p, q, rfl, gd, rfl, rfl, by omega, by omega⟩
theorem fold_lens (t : List (List Int)) (a b : Int) : (foldT t a b).length ≤ 1048576 ∧ ∀ r ∈ foldT t a b, r.length ≤ 1048576 := by
  rcases fold_cases t a b with ⟨-, -, e⟩ | ⟨h, wd, G, p, q, rfl, gd, rfl, rfl, hpq, hq⟩
  · rw [e]; simp
  · have h4 := gd.h4
    have w4 := gd.w4
    rw [foldT]
    split
    · rw [fold_mk gd hpq hq]
      refine ⟨by rw [mkT_len]; omega, fun r hr => ?_⟩
      obtain ⟨i, hi, rfl⟩ := mkT_mem.1 hr
      rw [mkL_len]; omega
    · simp
end Go.Proofs.Ytncnghmadeghlaa
