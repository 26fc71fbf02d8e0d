/- Plain words on hidden cells: tables that fit, a cut bounds a cell, a path moves it. -/
import Derived.Test.YtncnghmadeghlaaMkT
namespace Go.Proofs.Ytncnghmadeghlaa
set_option linter.unusedVariables false

/-- X has the sums of F and its shown cells, and no negative number but perhaps at the cell (a, b) -/
structure FitG (h wd : Nat) (F : Nat → Nat → Int) (M : Nat → Nat → Bool) (a b : Nat) (X : Nat → Nat → Int) : Prop where
  nn : ∀ i j, i < h → j < wd → ¬ (i = a ∧ j = b) → 0 ≤ X i j
  sh : ∀ i j, i < h → j < wd → M i j = false → X i j = F i j
  rs : ∀ i, i < h → sumN wd (X i) = sumN wd (F i)
  cs : ∀ j, j < wd → sumN h (fun i => X i j) = sumN h (fun i => F i j)

/-- the sum over a part of a rectangle -/
def boxS (h wd : Nat) (R C : Nat → Bool) (D : Nat → Nat → Int) : Int := sumN h fun k => if R k then sumN wd (fun l => if C l then D k l else 0) else 0
theorem boxS_split (h wd : Nat) (R C : Nat → Bool) (D : Nat → Nat → Int) : boxS h wd R C D + boxS h wd R (fun l => !C l) D = sumN h (fun k => if R k then sumN wd (D k) else 0) := by
  rw [boxS, boxS, ← sumN_add]
  refine sumN_ext fun k _ => ?_
  cases R k
  · rfl
  · simp only [if_true]
    rw [← sumN_add]
    refine sumN_ext fun l _ => ?_
    cases C l <;> simp
theorem boxS_turn (h wd : Nat) (R C : Nat → Bool) (D : Nat → Nat → Int) : boxS h wd R C D = boxS wd h C R (fun l k => D k l) := by
  rw [boxS, boxS]
  have e1 : sumN h (fun k => if R k then sumN wd (fun l => if C l then D k l else 0) else 0) = sumN h (fun k => sumN wd (fun l => if R k && C l then D k l else 0)) := sumN_ext fun k _ => by
    cases R k
    · simp only [Bool.false_and, Bool.false_eq_true, if_false]; exact (sumN_zero _).symm
    · simp
  have e2 : sumN wd (fun l => if C l then sumN h (fun k => if R k then D k l else 0) else 0) = sumN wd (fun l => sumN h (fun k => if R k && C l then D k l else 0)) := sumN_ext fun l _ => by
    cases C l
    · simp only [Bool.and_false, Bool.false_eq_true, if_false]; exact (sumN_zero _).symm
    · simp
  rw [e1, e2, sumN_swap]
/-- what has no sums: the two crossed parts of a cut weigh the same -/
theorem box_cross {h wd : Nat} {D : Nat → Nat → Int} (hr : ∀ i, i < h → sumN wd (D i) = 0) (hc : ∀ j, j < wd → sumN h (fun i => D i j) = 0) (R C : Nat → Bool) :
    boxS h wd R (fun l => !C l) D = boxS h wd (fun k => !R k) C D := by
  have h1 := boxS_split h wd R C D
  have h2 := boxS_split wd h C R (fun l k => D k l)
  rw [← boxS_turn h wd R C D, ← boxS_turn h wd (fun k => !R k) C D] at h2
  have z1 : sumN h (fun k => if R k then sumN wd (D k) else 0) = 0 := by
    rw [sumN_ext (g := fun _ => 0) fun k hk => by rw [hr k hk]; split <;> rfl, sumN_zero]
  have z2 : sumN wd (fun l => if C l then sumN h (fun k => D k l) else 0) = 0 := by
    rw [sumN_ext (g := fun _ => 0) fun l hl => by rw [hc l hl]; split <;> rfl, sumN_zero]
  omega
theorem boxS_nonneg {h wd : Nat} {R C : Nat → Bool} {D : Nat → Nat → Int} (hd : ∀ k l, k < h → l < wd → R k = true → C l = true → 0 ≤ D k l) : 0 ≤ boxS h wd R C D := by
  refine sumN_nonneg fun k hk => ?_
  cases hR : R k
  · simp
  · simp only [if_true]
    refine sumN_nonneg fun l hl => ?_
    cases hC : C l
    · simp
    · simpa using hd k l hk hl hR hC
theorem boxS_zero {h wd : Nat} {R C : Nat → Bool} {D : Nat → Nat → Int} (hd : ∀ k l, k < h → l < wd → R k = true → C l = true → D k l = 0) : boxS h wd R C D = 0 := by
  rw [boxS, sumN_ext (g := fun _ => 0), sumN_zero]
  intro k hk
  cases hR : R k
  · simp
  · simp only [if_true]
    rw [sumN_ext (g := fun _ => 0), sumN_zero]
    intro l hl
    cases hC : C l
    · simp
    · simpa using hd k l hk hl hR hC
/-- all but one cell of a part -/
theorem boxS_one {h wd a b : Nat} {R C : Nat → Bool} (D : Nat → Nat → Int) (ha : a < h) (hb : b < wd) (hR : R a = true) (hC : C b = true) : boxS h wd R C D = D a b + boxS h wd R C (up2 D a b 0) := by
  have e : D = fun k l => up2 D a b 0 k l + (if k = a ∧ l = b then D a b else 0) := by
    funext k l
    by_cases hk : k = a ∧ l = b
    · obtain ⟨rfl, rfl⟩ := hk; simp [up2]
    · simp [up2, hk]
  have e2 : boxS h wd R C D = boxS h wd R C (up2 D a b 0) + boxS h wd R C (fun k l => if k = a ∧ l = b then D a b else 0) := by
    conv => lhs; rw [e]
    rw [boxS, boxS, boxS, ← sumN_add]
    refine sumN_ext fun k _ => ?_
    cases R k
    · rfl
    · simp only [if_true]
      rw [← sumN_add]
      refine sumN_ext fun l _ => ?_
      cases C l <;> simp
  have e3 : boxS h wd R C (fun k l => if k = a ∧ l = b then D a b else 0) = D a b := by
    rw [boxS, sumN_ext (g := fun k => if k = a then D a b else 0), sumN_one ha]
    intro k hk
    by_cases hka : k = a
    · subst hka
      simp only [hR, if_true, true_and]
      rw [sumN_ext (g := fun l => if l = b then D k b else 0), sumN_one hb]
      intro l hl
      by_cases hlb : l = b
      · subst hlb; simp [hC]
      · simp [hlb]
    · simp only [hka, false_and, if_false]
      rw [sumN_ext (g := fun _ => 0), sumN_zero]
      · split <;> rfl
      · intro l _; split <;> rfl
  omega
section
variable {h wd a b : Nat} {F : Nat → Nat → Int} {M : Nat → Nat → Bool} {X Y : Nat → Nat → Int}
theorem diff_rows (hX : FitG h wd F M a b X) (hY : FitG h wd F M a b Y) : ∀ i, i < h → sumN wd (fun l => Y i l - X i l) = 0 := fun i hi => by
  rw [sumN_sub, hX.rs i hi, hY.rs i hi]; omega
theorem diff_cols (hX : FitG h wd F M a b X) (hY : FitG h wd F M a b Y) : ∀ j, j < wd → sumN h (fun i => Y i j - X i j) = 0 := fun j hj => by
  rw [sumN_sub (f := fun i => Y i j) (g := fun i => X i j), hX.cs j hj, hY.cs j hj]; omega
/-- a cut shows that the cell can't be greater -/
theorem cut_high (ha : a < h) (hb : b < wd) (hX : FitG h wd F M a b X) (hY : FitG h wd F M a b Y) (R C : Nat → Bool) (hRa : R a = true) (hCb : C b = false)
    (h1 : ∀ k l, k < h → l < wd → M k l = true → ¬ (k = a ∧ l = b) → R k = true → C l = false → X k l = 0)
    (h2 : ∀ k l, k < h → l < wd → M k l = true → ¬ (k = a ∧ l = b) → R k = false → C l = true → False) : Y a b ≤ X a b := by
  have hx := box_cross (diff_rows hX hY) (diff_cols hX hY) R C
  have z : boxS h wd (fun k => !R k) C (fun i l => Y i l - X i l) = 0 := boxS_zero fun k l hk hl hR hC => by
    have hR' : R k = false := by simpa using hR
    have hne : ¬ (k = a ∧ l = b) := fun e => by rw [e.1, hRa] at hR'; cases hR'
    cases hM : M k l
    · rw [hX.sh k l hk hl hM, hY.sh k l hk hl hM]; omega
    · exact (h2 k l hk hl hM hne hR' hC).elim
  have e := boxS_one (R := R) (C := fun l => !C l) (fun i l => Y i l - X i l) ha hb hRa (by simp [hCb])
  have p : 0 ≤ boxS h wd R (fun l => !C l) (up2 (fun i l => Y i l - X i l) a b 0) := boxS_nonneg fun k l hk hl hR hC => by
    have hC' : C l = false := by simpa using hC
    by_cases hne : k = a ∧ l = b
    · simp [up2, hne]
    · simp only [up2, if_neg hne]
      cases hM : M k l
      · rw [hX.sh k l hk hl hM, hY.sh k l hk hl hM]; omega
      · have := h1 k l hk hl hM hne hR hC'
        have := hY.nn k l hk hl hne
        omega
  omega
/-- a cut shows that the cell can't be less -/
theorem cut_low (ha : a < h) (hb : b < wd) (hX : FitG h wd F M a b X) (hY : FitG h wd F M a b Y) (R C : Nat → Bool) (hRa : R a = true) (hCb : C b = false)
    (h1 : ∀ k l, k < h → l < wd → M k l = true → ¬ (k = a ∧ l = b) → R k = true → C l = false → False)
    (h2 : ∀ k l, k < h → l < wd → M k l = true → ¬ (k = a ∧ l = b) → R k = false → C l = true → X k l = 0) : X a b ≤ Y a b := by
  have hx := box_cross (diff_rows hX hY) (diff_cols hX hY) R C
  have z : 0 ≤ boxS h wd (fun k => !R k) C (fun i l => Y i l - X i l) := boxS_nonneg fun k l hk hl hR hC => by
    have hR' : R k = false := by simpa using hR
    have hne : ¬ (k = a ∧ l = b) := fun e => by rw [e.1, hRa] at hR'; cases hR'
    cases hM : M k l
    · rw [hX.sh k l hk hl hM, hY.sh k l hk hl hM]; omega
    · have := h2 k l hk hl hM hne hR' hC
      have := hY.nn k l hk hl hne
      omega
  have e := boxS_one (R := R) (C := fun l => !C l) (fun i l => Y i l - X i l) ha hb hRa (by simp [hCb])
  have p : boxS h wd R (fun l => !C l) (up2 (fun i l => Y i l - X i l) a b 0) = 0 := boxS_zero fun k l hk hl hR hC => by
    have hC' : C l = false := by simpa using hC
    by_cases hne : k = a ∧ l = b
    · simp [up2, hne]
    · simp only [up2, if_neg hne]
      cases hM : M k l
      · rw [hX.sh k l hk hl hM, hY.sh k l hk hl hM]; omega
      · exact (h1 k l hk hl hM hne hR hC').elim
  omega
end

/-- sums of a table in which one cell has turned -/
theorem sum_up1 {n k : Nat} (hk : k < n) (f : Nat → Int) (x : Int) : sumN n (up1 f k x) = sumN n f + (x - f k) := by
  have e : sumN n (up1 f k x) = sumN n (fun i => f i + if i = k then x - f k else 0) := sumN_ext fun i _ => by
    by_cases hi : i = k
    · subst hi; simp [up1]; omega
    · simp [up1, hi]
  rw [e, sumN_add, sumN_one hk]
theorem row_up2 {wd i j : Nat} (hj : j < wd) (X : Nat → Nat → Int) (x : Int) (k : Nat) : sumN wd (up2 X i j x k) = sumN wd (X k) + if k = i then x - X i j else 0 := by
  by_cases hk : k = i
  · subst hk
    rw [if_pos rfl, ← sum_up1 hj (X k) x]
    exact sumN_ext fun l _ => by simp [up2, up1]
  · rw [if_neg hk, Int.add_zero]
    exact sumN_ext fun l _ => by simp [up2, hk]
theorem col_up2 {h i j : Nat} (hi : i < h) (X : Nat → Nat → Int) (x : Int) (l : Nat) : sumN h (fun k => up2 X i j x k l) = sumN h (fun k => X k l) + if l = j then x - X i j else 0 := by
  by_cases hl : l = j
  · subst hl
    rw [if_pos rfl, ← sum_up1 hi (fun k => X k l) x]
    exact sumN_ext fun k _ => by simp [up2, up1]
  · rw [if_neg hl, Int.add_zero]
    exact sumN_ext fun k _ => by simp [up2, hl]

/-- on the way back along a path: what the rows and columns lack or have too much -/
structure Bal (h wd : Nat) (F : Nat → Nat → Int) (a place : Nat) (d : Int) (X : Nat → Nat → Int) : Prop where
  rs : ∀ k, k < h → sumN wd (X k) = sumN wd (F k) + (if k = a then d else 0) - (if place = k then d else 0)
  cs : ∀ l, l < wd → sumN h (fun k => X k l) = sumN h (fun k => F k l) + (if place = h + l then d else 0)
section
variable {h wd a b : Nat} {F : Nat → Nat → Int} {X : Nat → Nat → Int} {d : Int}
theorem Bal.start (ha : a < h) (hb : b < wd) (hr : ∀ i, i < h → sumN wd (X i) = sumN wd (F i)) (hc : ∀ j, j < wd → sumN h (fun i => X i j) = sumN h (fun i => F i j)) : Bal h wd F a (h + b) d (up2 X a b (X a b + d)) where
  rs k hk := by
    rw [row_up2 hb, hr k hk, if_neg (by omega : ¬ h + b = k)]
    split <;> omega
  cs l hl := by
    rw [col_up2 ha, hc l hl]
    by_cases hlb : l = b
    · subst hlb; simp; omega
    · rw [if_neg hlb, if_neg (by omega : ¬ h + b = h + l)]
theorem Bal.tocol {k l : Nat} (hk : k < h) (hl : l < wd) (hB : Bal h wd F a (h + l) d X) : Bal h wd F a k d (up2 X k l (X k l - d)) where
  rs i hi := by
    rw [row_up2 hl, hB.rs i hi, if_neg (by omega : ¬ h + l = i)]
    by_cases hik : i = k
    · subst hik; simp; omega
    · rw [if_neg hik, if_neg (show ¬ k = i from fun e => hik e.symm)]; omega
  cs j hj := by
    rw [col_up2 hk, hB.cs j hj, if_neg (by omega : ¬ k = h + j)]
    by_cases hjl : j = l
    · subst hjl; simp; omega
    · rw [if_neg hjl, if_neg (by omega : ¬ h + l = h + j)]; omega
theorem Bal.torow {k l : Nat} (hk : k < h) (hl : l < wd) (hB : Bal h wd F a k d X) : Bal h wd F a (h + l) d (up2 X k l (X k l + d)) where
  rs i hi := by
    rw [row_up2 hl, hB.rs i hi, if_neg (by omega : ¬ h + l = i)]
    by_cases hik : i = k
    · subst hik; simp; omega
    · rw [if_neg hik, if_neg (show ¬ k = i from fun e => hik e.symm)]; omega
  cs j hj := by
    rw [col_up2 hk, hB.cs j hj, if_neg (by omega : ¬ k = h + j)]
    by_cases hjl : j = l
    · subst hjl; simp; omega
    · rw [if_neg hjl, if_neg (by omega : ¬ h + l = h + j)]; omega
theorem Bal.done (ha : a < h) (hB : Bal h wd F a a d X) : (∀ i, i < h → sumN wd (X i) = sumN wd (F i)) ∧ ∀ j, j < wd → sumN h (fun i => X i j) = sumN h (fun i => F i j) := by
  refine ⟨fun i hi => ?_, fun j hj => ?_⟩
  · rw [hB.rs i hi]
    by_cases e : i = a
    · subst e; simp
    · rw [if_neg e, if_neg (fun x => e x.symm)]; omega
  · rw [hB.cs j hj, if_neg (by omega)]; omega
end
end Go.Proofs.Ytncnghmadeghlaa
