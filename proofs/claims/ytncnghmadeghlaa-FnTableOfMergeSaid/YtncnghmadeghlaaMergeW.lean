/- Plain words on merged areas. -/
import Derived.Test.YtncnghmadeghlaaTofL
import Derived.Test.YtncnghmadeghlaaFoldW
namespace Go.Proofs.Ytncnghmadeghlaa
set_option linter.unusedVariables false
/-- a person, area 1 made area 0 -/
def mgP (p : Per) : Per := if p.area = 1 then { p with area := 0 } else p
/-- the list, its first k people edited -/
def mgK (ps : List Per) (k : Nat) : List Per := (ps.take k).map mgP ++ ps.drop k
theorem mgK_zero (ps : List Per) : mgK ps 0 = ps := by simp [mgK]
theorem mgK_all (ps : List Per) : mgK ps ps.length = ps.map mgP := by simp [mgK]
theorem mgK_get (ps : List Per) {k : Nat} (hk : k ≤ ps.length) (j : Nat) : (mgK ps k)[j]? = if j < k then (ps[j]?).map mgP else ps[j]? := by
  have hl : ((ps.take k).map mgP).length = k := by simp; omega
  unfold mgK
  split
  · next h => rw [List.getElem?_append_left (by omega), List.getElem?_map, List.getElem?_take_of_lt h]
  · next h => rw [List.getElem?_append_right (by omega), hl, List.getElem?_drop, show k + (j - k) = j by omega]
theorem mgK_at {ps : List Per} {k : Nat} (hk : k ≤ ps.length) : (mgK ps k)[k]? = ps[k]? := by rw [mgK_get ps hk, if_neg (Nat.lt_irrefl k)]
theorem mgK_step {ps : List Per} {k : Nat} {p : Per} (h : ps[k]? = some p) : (mgK ps k).set k (mgP p) = mgK ps (k + 1) := by
  have hk := (List.getElem?_eq_some_iff.1 h).1
  have hl : (mgK ps k).length = ps.length := by simp [mgK]; omega
  apply List.ext_getElem?
  intro j
  rw [List.getElem?_set, mgK_get ps (by omega), hl, mgK_get ps (by omega)]
  by_cases e : k = j
  · subst e
    rw [if_pos rfl, if_pos hk, if_pos (by omega), h]
    rfl
  · rw [if_neg e]
    by_cases e2 : j < k
    · rw [if_pos e2, if_pos (by omega)]
    · rw [if_neg e2, if_neg (by omega)]
theorem mgP_one (j s y : Int) : mgP ⟨1, j, s, y⟩ = ⟨0, j, s, y⟩ := by simp [mgP]
theorem mgP_not {p : Per} (h : ¬ p.area = 1) : mgP p = p := by simp [mgP, h]
theorem mgK_stay {ps : List Per} {k : Nat} {p : Per} (h : ps[k]? = some p) (hp : ¬ p.area = 1) : mgK ps (k + 1) = mgK ps k := by
  have hk := (List.getElem?_eq_some_iff.1 h).1
  rw [← mgK_step h, mgP_not hp]
  apply List.ext_getElem?
  intro j
  rw [List.getElem?_set]
  split
  · next e =>
    subst e
    rw [mgK_at (by omega), h, if_pos (by simp [mgK]; omega)]
  · rfl
theorem mg_ok {ps : List Per} (h : peoOk ps = true) : peoOk (ps.map mgP) = true := by
  simp only [peoOk, Bool.and_eq_true, decide_eq_true_eq, List.length_map, List.all_eq_true] at h ⊢
  refine ⟨fun q hq => ?_, h.2⟩
  obtain ⟨p, hp, rfl⟩ := List.mem_map.1 hq
  have h1 := h.1 p hp
  unfold mgP
  split
  · simp only [perOk, Bool.and_eq_true] at h1 ⊢
    refine ⟨⟨⟨by rfl, h1.1.1.2⟩, h1.1.2⟩, h1.2⟩
  · exact h1
theorem mg_zero : ∀ (ps : List Per) (j : Nat), cntP (ps.map mgP) 0 j = cntP ps 0 j + cntP ps 1 j
  | [], j => by simp [cntP]
  | p :: ps, j => by
    rw [List.map_cons, cntP_cons, cntP_cons, cntP_cons, mg_zero ps j]
    by_cases h : p.area = 1
    · by_cases hj : p.job = (j : Int)
      · simp [mgP, h, hj]; omega
      · simp [mgP, h, hj]
    · rw [mgP_not h]
      by_cases h0 : p.area = 0
      · by_cases hj : p.job = (j : Int)
        · simp [h0, hj]; omega
        · simp [h0, hj]
      · simp [h, h0]
theorem mg_one : ∀ (ps : List Per) (j : Nat), cntP (ps.map mgP) 1 j = 0
  | [], j => by simp [cntP]
  | p :: ps, j => by
    rw [List.map_cons, cntP_cons, mg_one ps j]
    by_cases h : p.area = 1
    · simp [mgP, h]
    · rw [mgP_not h]; simp [h]
theorem mg_far : ∀ (ps : List Per) (i j : Nat), 2 ≤ i → cntP (ps.map mgP) i j = cntP ps i j
  | [], i, j, _ => by simp
  | p :: ps, i, j, hi => by
    rw [List.map_cons, cntP_cons, cntP_cons, mg_far ps i j hi]
    by_cases h : p.area = 1
    · have e1 : ¬ ((0 : Int) = (i : Int)) := by omega
      have e2 : ¬ ((1 : Int) = (i : Int)) := by omega
      simp [mgP, h, e1, e2]
    · rw [mgP_not h]
theorem mg_good {ps : List Per} (h : peoOk ps = true) : Good 3 4 (fdF (cntP ps) 0 1) := by
  have hl := peoOk_len h
  refine ⟨by omega, by omega, by omega, by omega, fun i j => ?_, fun i j => ?_⟩
  · have h0 := (cntP_le ps 0 j).1
    have h1 := (cntP_le ps 1 j).1
    have h2 := (cntP_le ps (skp 1 i) j).1
    unfold fdF; split <;> omega
  · have h0 := (cntP_le ps 0 j).2
    have h1 := (cntP_le ps 1 j).2
    have h2 := (cntP_le ps (skp 1 i) j).2
    unfold fdF; split <;> omega
theorem mg_foldOk {ps : List Per} (h : peoOk ps = true) : foldOk (mkT 4 4 (cntP ps)) 0 1 = true := by
  have h1 := fold_ok (a := 0) (b := 1) (cnt_good h) (by omega) (by omega)
  exact h1.trans (mg_good h).valid
theorem mg_foldT {ps : List Per} (h : peoOk ps = true) : foldT (mkT 4 4 (cntP ps)) 0 1 = mkT 3 4 (fun i => cntP (ps.map mgP) (skp 1 i)) := by
  rw [foldT, if_pos (mg_foldOk h)]
  refine (fold_mk (a := 0) (b := 1) (cnt_good h) (by omega) (by omega)).trans ?_
  refine mkT_ext fun i j hi hj => ?_
  unfold fdF
  by_cases e : i = 0
  · subst e
    rw [if_pos rfl, show skp 1 0 = 0 from rfl, mg_zero]
  · rw [if_neg e, mg_far _ _ _ (by unfold skp; split <;> omega)]
end Go.Proofs.Ytncnghmadeghlaa
