/- Plain words on tables that fit. -/
import Derived.Test.YtncnghmadeghlaaMaskC
import Derived.Test.YtncnghmadeghlaaShape
import Derived.Test.YtncnghmadeghlaaSumsOf
namespace Go.Proofs.Ytncnghmadeghlaa
set_option linter.unusedVariables false
def cellFit (g : Int) (m : Bool) (x : Int) : Bool := decide (0 ≤ x) && (decide (x ≤ 396) && (m || decide (x = g)))
theorem cellFit_iff {g : Int} {m : Bool} {x : Int} : cellFit g m x = true ↔ 0 ≤ x ∧ x ≤ 396 ∧ (m = false → x = g) := by
  cases m <;> simp [cellFit]
def cellsFit (h wd : Nat) (G : Nat → Nat → Int) (M : Nat → Nat → Bool) (X : Nat → Nat → Int) : Bool := (List.range h).all fun i => (List.range wd).all fun j => cellFit (G i j) (M i j) (X i j)
theorem cellsFit_iff {h wd : Nat} {G : Nat → Nat → Int} {M : Nat → Nat → Bool} {X : Nat → Nat → Int} : cellsFit h wd G M X = true ↔ ∀ i j, i < h → j < wd → cellFit (G i j) (M i j) (X i j) = true := by
  simp only [cellsFit, List.all_eq_true, List.mem_range]
  exact ⟨fun H i j hi hj => H i hi j hj, fun H i hi j hj => H i j hi hj⟩
theorem cellsFit_bad {h wd : Nat} {G : Nat → Nat → Int} {M : Nat → Nat → Bool} {X : Nat → Nat → Int} {i j : Nat} (hi : i < h) (hj : j < wd) (hb : cellFit (G i j) (M i j) (X i j) = false) : cellsFit h wd G M X = false := by
  cases e : cellsFit h wd G M X
  · rfl
  · rw [cellsFit_iff.1 e i j hi hj] at hb; cases hb
def sumsFit (h wd : Nat) (G X : Nat → Nat → Int) : Bool := decide (rowL h wd G = rowL h wd X) && decide (colL h wd G = colL h wd X)
def fitM (h wd : Nat) (G : Nat → Nat → Int) (M : Nat → Nat → Bool) (X : Nat → Nat → Int) : Bool := cellsFit h wd G M X && sumsFit h wd G X
theorem fitM_cells {h wd : Nat} {G : Nat → Nat → Int} {M : Nat → Nat → Bool} {X : Nat → Nat → Int} (hc : cellsFit h wd G M X = false) : fitM h wd G M X = false := by rw [fitM, hc]; rfl
theorem fitM_sums {h wd : Nat} {G : Nat → Nat → Int} {M : Nat → Nat → Bool} {X : Nat → Nat → Int} (hc : cellsFit h wd G M X = true) : fitM h wd G M X = sumsFit h wd G X := by rw [fitM, hc]; rfl
def shapeW (h wd : Nat) (x : List (List Int)) : Bool := decide (x.length = h) && x.all (fun r => decide (r.length = wd))
theorem sameSh_mk {h wd : Nat} {G : Nat → Nat → Int} (x : List (List Int)) : sameSh (mkT h wd G) x = shapeW h wd x := by
  have e : (mkT h wd G).map List.length = List.replicate h wd := by
    apply List.ext_getElem?
    intro i
    by_cases hi : i < h
    · rw [List.getElem?_map, mkT_get _ hi]; simp [hi, mkL_len]
    · rw [List.getElem?_eq_none (by simp [mkT_len]; omega), List.getElem?_eq_none (by simp; omega)]
  rw [Bool.eq_iff_iff]
  simp only [sameSh, e, shapeW, decide_eq_true_eq, Bool.and_eq_true, List.all_eq_true]
  constructor
  · intro h1
    refine ⟨by have := congrArg List.length h1; simpa using this.symm, fun r hr => ?_⟩
    have : r.length ∈ x.map List.length := List.mem_map.2 ⟨r, hr, rfl⟩
    rw [← h1] at this
    exact List.eq_of_mem_replicate this
  · rintro ⟨h1, h2⟩
    refine (List.eq_replicate_iff.2 ⟨by simpa using h1, fun b hb => ?_⟩).symm
    obtain ⟨r, hr, rfl⟩ := List.mem_map.1 hb
    exact h2 r hr
def fitT (t : List (List Int)) (m : List (List Bool)) (x : List (List Int)) : Bool := maskValid t m && (shapeW t.length (wid t) x && fitM t.length (wid t) (cel 0 t) (cel false m) (cel 0 x))
theorem fitM_ext {h wd : Nat} {G G' : Nat → Nat → Int} {M M' : Nat → Nat → Bool} {X X' : Nat → Nat → Int} (e1 : ∀ i j, i < h → j < wd → G i j = G' i j) (e2 : ∀ i j, i < h → j < wd → M i j = M' i j) (e3 : ∀ i j, i < h → j < wd → X i j = X' i j) : fitM h wd G M X = fitM h wd G' M' X' := by
  have a1 : cellsFit h wd G M X = cellsFit h wd G' M' X' := by
    rw [Bool.eq_iff_iff, cellsFit_iff, cellsFit_iff]
    exact ⟨fun H i j hi hj => by rw [← e1 i j hi hj, ← e2 i j hi hj, ← e3 i j hi hj]; exact H i j hi hj, fun H i j hi hj => by rw [e1 i j hi hj, e2 i j hi hj, e3 i j hi hj]; exact H i j hi hj⟩
  have r1 : ∀ {A B : Nat → Nat → Int}, (∀ i j, i < h → j < wd → A i j = B i j) → rowL h wd A = rowL h wd B := fun e => mkL_ext fun i hi => sumN_ext fun j hj => e i j hi hj
  have r2 : ∀ {A B : Nat → Nat → Int}, (∀ i j, i < h → j < wd → A i j = B i j) → colL h wd A = colL h wd B := fun e => mkL_ext fun j hj => sumN_ext fun i hi => e i j hi hj
  rw [fitM, fitM, sumsFit, sumsFit, a1, r1 e1, r1 e3, r2 e1, r2 e3]
theorem fitT_mk {h wd : Nat} {G : Nat → Nat → Int} {M : Nat → Nat → Bool} {X : Nat → Nat → Int} (gd : Good h wd G) : fitT (mkT h wd G) (mkT h wd M) (mkT h wd X) = fitM h wd G M X := by
  have hs : shapeW h wd (mkT h wd X) = true := by
    simp only [shapeW, mkT_len, decide_true, Bool.true_and, List.all_eq_true, decide_eq_true_eq]
    intro r hr
    obtain ⟨i, hi, rfl⟩ := mkT_mem.1 hr
    exact mkL_len _ _
  rw [fitT, maskValid_mk gd, mkT_len, mkT_wid _ gd.h1, hs, Bool.true_and, Bool.true_and]
  exact fitM_ext (fun i j hi hj => cel_mk hi hj) (fun i j hi hj => cel_mk hi hj) (fun i j hi hj => cel_mk hi hj)
theorem cel_out {x : List (List Int)} {h wd : Nat} (hs : shapeW h wd x = true) {i j : Nat} (ho : ¬ (i < h ∧ j < wd)) : cel 0 x i j = 0 := by
  simp only [shapeW, Bool.and_eq_true, decide_eq_true_eq, List.all_eq_true] at hs
  unfold cel
  by_cases hi : i < x.length
  · have hr : x.getD i [] ∈ x := by rw [List.getD_eq_getElem?_getD, List.getElem?_eq_getElem hi]; exact List.getElem_mem hi
    have hl := hs.2 _ hr
    rw [List.getD_eq_getElem?_getD, List.getElem?_eq_none (by omega)]
    rfl
  · have : x.getD i [] = [] := by rw [List.getD_eq_getElem?_getD, List.getElem?_eq_none (by omega)]; rfl
    rw [this]; rfl
theorem fit_cases (t : List (List Int)) (m : List (List Bool)) (x : List (List Int)) :
    (maskValid t m = false ∧ fitT t m x = false) ∨
    (∃ h wd G M, t = mkT h wd G ∧ Good h wd G ∧ m = mkT h wd M ∧ shapeW h wd x = false ∧ fitT t m x = false) ∨
    ∃ h wd G M X, t = mkT h wd G ∧ Good h wd G ∧ m = mkT h wd M ∧ x = mkT h wd X ∧ (∀ i j, ¬ (i < h ∧ j < wd) → X i j = 0) ∧ fitT t m x = fitM h wd G M X := by
  rcases mask_cases t m with hv | ⟨h, wd, G, M, rfl, gd, rfl⟩
  · exact .inl ⟨hv, by rw [fitT, hv]; rfl⟩
  · right
    cases hs : shapeW h wd x
    · refine .inl ⟨h, wd, G, M, rfl, gd, rfl, hs, ?_⟩
      rw [fitT, mkT_len, mkT_wid _ gd.h1, hs]
      simp
    · right
      have h1 := hs
      simp only [shapeW, Bool.and_eq_true, decide_eq_true_eq, List.all_eq_true] at h1
      have e : x = mkT h wd (cel 0 x) := by
        rw [← h1.1]
        exact rect_mk h1.2
      refine ⟨h, wd, G, M, cel 0 x, rfl, gd, rfl, e, fun i j ho => cel_out hs ho, ?_⟩
      have := fitT_mk (M := M) (X := cel 0 x) gd
      rw [← e] at this
      exact this
end Go.Proofs.Ytncnghmadeghlaa
