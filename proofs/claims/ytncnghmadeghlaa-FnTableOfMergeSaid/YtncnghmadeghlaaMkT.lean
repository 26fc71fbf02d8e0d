/- Plain words: lists and tables as functions of their places, sums, the cells of a rectangle in order. -/
import Derived.Test.YtncnghmadeghlaaTabW
namespace Go.Proofs.Ytncnghmadeghlaa
set_option linter.unusedVariables false
section
variable {α : Type}
def mkL (n : Nat) (f : Nat → α) : List α := (List.range n).map f
def mkT (h wd : Nat) (f : Nat → Nat → α) : List (List α) := mkL h fun i => mkL wd (f i)
def up1 (f : Nat → α) (k : Nat) (x : α) : Nat → α := fun i => if i = k then x else f i
def up2 (f : Nat → Nat → α) (a b : Nat) (x : α) : Nat → Nat → α := fun i j => if i = a ∧ j = b then x else f i j
theorem mkL_len (n : Nat) (f : Nat → α) : (mkL n f).length = n := by simp [mkL]
theorem mkL_get {n k : Nat} (f : Nat → α) (h : k < n) : (mkL n f)[k]? = some (f k) := by simp [mkL, h]
theorem mkL_at {n k : Nat} (f : Nat → α) (h : k < (mkL n f).length) : (mkL n f)[k] = f k := by simp [mkL]
theorem mkL_ext {n : Nat} {f g : Nat → α} (h : ∀ i, i < n → f i = g i) : mkL n f = mkL n g := List.map_congr_left fun i hi => h i (List.mem_range.1 hi)
theorem mkL_inj {n : Nat} {f g : Nat → α} (h : mkL n f = mkL n g) {i : Nat} (hi : i < n) : f i = g i := by
  have h1 := mkL_get f hi
  rw [h, mkL_get g hi] at h1
  injection h1 with h1
  exact h1.symm
theorem mkL_set (n : Nat) (f : Nat → α) (k : Nat) (x : α) : (mkL n f).set k x = mkL n (up1 f k x) := by
  apply List.ext_getElem?
  intro i
  rw [List.getElem?_set]
  by_cases hi : i < n
  · rw [mkL_get _ hi]
    by_cases hk : k = i
    · subst hk; rw [if_pos rfl, if_pos (by rw [mkL_len]; exact hi), mkL_get _ hi, up1, if_pos rfl]
    · rw [if_neg hk, mkL_get _ hi, up1, if_neg (fun e => hk e.symm)]
  · by_cases hk : k = i
    · subst hk; rw [if_pos rfl, if_neg (by rw [mkL_len]; exact hi), List.getElem?_eq_none (by rw [mkL_len]; omega)]
    · rw [if_neg hk, List.getElem?_eq_none (by rw [mkL_len]; omega), List.getElem?_eq_none (by rw [mkL_len]; omega)]
theorem mkL_of (xs : List α) (d : α) : xs = mkL xs.length (fun i => xs.getD i d) := by
  apply List.ext_getElem?
  intro i
  by_cases hi : i < xs.length
  · rw [mkL_get _ hi]; simp [hi]
  · rw [List.getElem?_eq_none (by omega), List.getElem?_eq_none (by rw [mkL_len]; omega)]
theorem mkL_rep (n : Nat) (x : α) : List.replicate n x = mkL n (fun _ => x) := by
  simp [mkL, List.map_const']
theorem mkL_map {β : Type} (n : Nat) (f : Nat → α) (g : α → β) : (mkL n f).map g = mkL n (fun i => g (f i)) := by simp [mkL]
theorem mkL_mem {n : Nat} {f : Nat → α} {x : α} : x ∈ mkL n f ↔ ∃ i, i < n ∧ f i = x := by simp [mkL]
theorem mkL_succ (n : Nat) (f : Nat → α) : mkL (n + 1) f = mkL n f ++ [f n] := by simp [mkL, List.range_succ]
theorem mkT_len (h wd : Nat) (f : Nat → Nat → α) : (mkT h wd f).length = h := mkL_len _ _
theorem mkT_get {h wd i : Nat} (f : Nat → Nat → α) (hi : i < h) : (mkT h wd f)[i]? = some (mkL wd (f i)) := mkL_get _ hi
theorem mkT_wid {h wd : Nat} (f : Nat → Nat → α) (hh : 0 < h) : wid (mkT h wd f) = wd := by rw [wid_at (mkT_get f hh), mkL_len]
theorem mkT_mem {h wd : Nat} {f : Nat → Nat → α} {r : List α} : r ∈ mkT h wd f ↔ ∃ i, i < h ∧ mkL wd (f i) = r := mkL_mem
theorem mkT_ext {h wd : Nat} {f g : Nat → Nat → α} (e : ∀ i j, i < h → j < wd → f i j = g i j) : mkT h wd f = mkT h wd g := mkL_ext fun i hi => mkL_ext fun j hj => e i j hi hj
theorem mkT_inj {h wd : Nat} {f g : Nat → Nat → α} (e : mkT h wd f = mkT h wd g) {i j : Nat} (hi : i < h) (hj : j < wd) : f i j = g i j := mkL_inj (mkL_inj e hi) hj
theorem mkT_set (h wd : Nat) (f : Nat → Nat → α) (i j : Nat) (x : α) : (mkT h wd f).set i ((mkL wd (f i)).set j x) = mkT h wd (up2 f i j x) := by
  rw [mkT, mkL_set, mkL_set]
  refine mkL_ext fun a _ => ?_
  by_cases ha : a = i
  · subst ha
    simp only [up1, if_true]
    exact mkL_ext fun b _ => by simp [up1, up2]
  · simp only [up1, if_neg ha]
    exact mkL_ext fun b _ => by simp [up2, ha]
theorem mkT_rep (h wd : Nat) (x : α) : List.replicate h (List.replicate wd x) = mkT h wd (fun _ _ => x) := by simp [mkT, mkL, List.map_const']
/-- the cell of a table -/
def cel (d : α) (t : List (List α)) (i j : Nat) : α := (t.getD i []).getD j d
theorem cel_at {d : α} {t : List (List α)} {i j : Nat} {r : List α} {x : α} (hr : t[i]? = some r) (hx : r[j]? = some x) : cel d t i j = x := by simp [cel, List.getD_eq_getElem?_getD, hr, hx]
theorem cel_mk {d : α} {h wd i j : Nat} {f : Nat → Nat → α} (hi : i < h) (hj : j < wd) : cel d (mkT h wd f) i j = f i j := cel_at (mkT_get f hi) (mkL_get _ hj)
theorem rect_mk {d : α} {t : List (List α)} {wd : Nat} (h : ∀ r ∈ t, r.length = wd) : t = mkT t.length wd (cel d t) := by
  refine (mkL_of t []).trans (mkL_ext fun i hi => ?_)
  have hr : t.getD i [] ∈ t := by rw [List.getD_eq_getElem?_getD, List.getElem?_eq_getElem hi]; exact List.getElem_mem hi
  refine (mkL_of _ d).trans ?_
  rw [h _ hr]
  rfl
theorem rect_row {d : α} {t : List (List α)} {wd : Nat} (h : ∀ r ∈ t, r.length = wd) {i : Nat} {r : List α} (hr : t[i]? = some r) : r = mkL wd (cel d t i) := by
  have hl := h r (List.mem_of_getElem? hr)
  refine (mkL_of r d).trans ?_
  rw [hl]
  exact mkL_ext fun j hj => (by simp [cel, List.getD_eq_getElem?_getD, hr])
end

/-- the sum of f 0 to f (n - 1) -/
def sumN : Nat → (Nat → Int) → Int
  | 0, _ => 0
  | n + 1, f => sumN n f + f n
theorem sumN_ext : ∀ {n : Nat} {f g : Nat → Int}, (∀ i, i < n → f i = g i) → sumN n f = sumN n g
  | 0, _, _, _ => rfl
  | n + 1, f, g, h => by rw [sumN, sumN, sumN_ext (fun i hi => h i (by omega)), h n (by omega)]
theorem sumN_add (n : Nat) (f g : Nat → Int) : sumN n (fun i => f i + g i) = sumN n f + sumN n g := by
  induction n with
  | zero => rfl
  | succ n ih => simp only [sumN, ih]; omega
theorem sumN_sub (n : Nat) (f g : Nat → Int) : sumN n (fun i => f i - g i) = sumN n f - sumN n g := by
  induction n with
  | zero => rfl
  | succ n ih => simp only [sumN, ih]; omega
theorem sumN_zero (n : Nat) : sumN n (fun _ => 0) = 0 := by
  induction n with
  | zero => rfl
  | succ n ih => simp only [sumN, ih]; rfl
theorem sumN_swap (n m : Nat) (f : Nat → Nat → Int) : sumN n (fun i => sumN m (f i)) = sumN m (fun j => sumN n (fun i => f i j)) := by
  induction n with
  | zero => simp only [sumN]; exact (sumN_zero m).symm
  | succ n ih => simp only [sumN, ih, sumN_add]
theorem sumN_le : ∀ {n : Nat} {f g : Nat → Int}, (∀ i, i < n → f i ≤ g i) → sumN n f ≤ sumN n g
  | 0, _, _, _ => Int.le_refl _
  | n + 1, f, g, h => by
    have h1 := sumN_le (n := n) (fun i hi => h i (by omega))
    have h2 := h n (by omega)
    simp only [sumN]; omega
theorem sumN_const (n : Nat) (c : Int) : sumN n (fun _ => c) = n * c := by
  induction n with
  | zero => simp [sumN]
  | succ n ih => simp only [sumN, ih]; rw [Int.natCast_succ, Int.add_mul]; omega
theorem sumN_nonneg {n : Nat} {f : Nat → Int} (h : ∀ i, i < n → 0 ≤ f i) : 0 ≤ sumN n f := by
  have := sumN_le (f := fun _ => 0) h
  rwa [sumN_zero] at this
theorem sumN_max {n : Nat} {f : Nat → Int} {c : Int} (h : ∀ i, i < n → f i ≤ c) : sumN n f ≤ n * c := by
  have := sumN_le (g := fun _ => c) h
  rwa [sumN_const] at this
theorem sumN_one {n k : Nat} (hk : k < n) (x : Int) : sumN n (fun i => if i = k then x else 0) = x := by
  induction n with
  | zero => omega
  | succ n ih =>
    simp only [sumN]
    by_cases h : k = n
    · subst h
      rw [sumN_ext (g := fun _ => 0) (fun i hi => by rw [if_neg (by omega)]), sumN_zero]; simp
    · rw [ih (by omega), if_neg (fun e => h e.symm)]; omega
theorem sum_mkL (n : Nat) (f : Nat → Int) : (mkL n f).sum = sumN n f := by
  induction n with
  | zero => rfl
  | succ n ih => rw [mkL_succ, List.sum_append, ih]; simp [sumN]
theorem sumN_split (n m : Nat) (f : Nat → Int) : sumN (n + m) f = sumN n f + sumN m (fun i => f (n + i)) := by
  induction m with
  | zero => simp [sumN]
  | succ m ih => rw [← Nat.add_assoc]; simp only [sumN, ih]; omega

/-- the cells of a rectangle in order: the rows up to i whole, the first j of row i -/
def cp (wd i j : Nat) : List (Nat × Nat) := ((List.range i).flatMap fun a => (List.range wd).map fun b => (a, b)) ++ (List.range j).map fun b => (i, b)
theorem cp_step (wd i j : Nat) : cp wd i (j + 1) = cp wd i j ++ [(i, j)] := by simp [cp, List.range_succ]
theorem cp_next (wd i : Nat) : cp wd i wd = cp wd (i + 1) 0 := by simp [cp, List.range_succ]
theorem cp_len (wd i j : Nat) : (cp wd i j).length = i * wd + j := by
  have h : ∀ n : Nat, ((List.range n).flatMap fun a => (List.range wd).map fun b => (a, b)).length = n * wd := by
    intro n
    induction n with
    | zero => simp
    | succ n ih => rw [List.range_succ, List.flatMap_append, List.length_append, ih]; simp [Nat.add_mul]
  simp [cp, h]
theorem cp_mem {wd i j : Nat} {p : Nat × Nat} : p ∈ cp wd i j ↔ (p.1 < i ∧ p.2 < wd) ∨ (p.1 = i ∧ p.2 < j) := by
  obtain ⟨a, b⟩ := p
  simp only [cp, List.mem_append, List.mem_flatMap, List.mem_map, List.mem_range, Prod.mk.injEq]
  constructor
  · rintro (⟨x, hx, y, hy, rfl, rfl⟩ | ⟨y, hy, rfl, rfl⟩)
    · exact .inl ⟨hx, hy⟩
    · exact .inr ⟨rfl, hy⟩
  · rintro (⟨h1, h2⟩ | ⟨h1, h2⟩)
    · exact .inl ⟨a, h1, b, h2, rfl, rfl⟩
    · exact .inr ⟨b, h2, h1.symm, rfl⟩
/-- what has been added up where p says so -/
def acc (v : Nat → Nat → Int) (p : Nat × Nat → Bool) (pre : List (Nat × Nat)) : Int := (pre.map fun q => if p q then v q.1 q.2 else 0).sum
theorem acc_snoc (v : Nat → Nat → Int) (p : Nat × Nat → Bool) (pre : List (Nat × Nat)) (q : Nat × Nat) : acc v p (pre ++ [q]) = acc v p pre + if p q then v q.1 q.2 else 0 := by simp [acc]
theorem acc_bound {v : Nat → Nat → Int} {p : Nat × Nat → Bool} {M : Int} (hM : 0 ≤ M) : ∀ {pre : List (Nat × Nat)}, (∀ q ∈ pre, 0 ≤ v q.1 q.2 ∧ v q.1 q.2 ≤ M) → 0 ≤ acc v p pre ∧ acc v p pre ≤ pre.length * M
  | [], _ => by simp [acc]
  | q :: pre, h => by
    have ih := acc_bound (p := p) hM (pre := pre) (fun x hx => h x (List.mem_cons_of_mem _ hx))
    have hq := h q List.mem_cons_self
    have e : acc v p (q :: pre) = (if p q then v q.1 q.2 else 0) + acc v p pre := by simp [acc]
    rw [e, List.length_cons, Int.natCast_succ, Int.add_mul]
    split <;> omega
theorem acc_row (v : Nat → Nat → Int) (wd k : Nat) : ∀ i j, acc v (fun q => q.1 == k) (cp wd i j) = if k < i then sumN wd (v k) else if k = i then sumN j (v k) else 0 := by
  intro i
  induction i with
  | zero =>
    intro j
    induction j with
    | zero => simp [cp, acc, sumN]
    | succ j ih =>
      rw [cp_step, acc_snoc, ih]
      by_cases hk : k = 0
      · subst hk; simp [sumN]
      · simp [hk, show ¬ 0 = k from fun e => hk e.symm]
  | succ i ihi =>
    intro j
    induction j with
    | zero =>
      rw [← cp_next, ihi]
      by_cases h1 : k < i
      · rw [if_pos h1, if_pos (by omega)]
      · by_cases h2 : k = i
        · subst h2; simp
        · rw [if_neg h1, if_neg h2, if_neg (by omega)]; split <;> rfl
    | succ j ih =>
      rw [cp_step, acc_snoc, ih]
      by_cases h1 : k < i + 1
      · rw [if_pos h1, if_pos h1]
        have : (i + 1 == k) = false := beq_eq_false_iff_ne.2 (by omega)
        simp [this]
      · rw [if_neg h1, if_neg h1]
        by_cases h2 : k = i + 1
        · subst h2; simp [sumN]
        · rw [if_neg h2, if_neg h2]
          have : (i + 1 == k) = false := beq_eq_false_iff_ne.2 (by omega)
          simp [this]
theorem acc_col (v : Nat → Nat → Int) (wd k : Nat) (hk : k < wd) : ∀ i j, j ≤ wd → acc v (fun q => q.2 == k) (cp wd i j) = sumN i (fun a => v a k) + if k < j then v i k else 0 := by
  intro i
  induction i with
  | zero =>
    intro j
    induction j with
    | zero => intro _; simp [cp, acc, sumN]
    | succ j ih =>
      intro hj
      rw [cp_step, acc_snoc, ih (by omega)]
      by_cases h : j = k
      · subst h; simp
      · have : (j == k) = false := beq_eq_false_iff_ne.2 h
        by_cases h2 : k < j
        · simp [this, h2, show k < j + 1 by omega]
        · simp [this, h2, show ¬ k < j + 1 by omega]
  | succ i ihi =>
    intro j
    induction j with
    | zero => intro _; rw [← cp_next, ihi wd (Nat.le_refl _), if_pos hk]; simp [sumN]
    | succ j ih =>
      intro hj
      rw [cp_step, acc_snoc, ih (by omega)]
      by_cases h : j = k
      · subst h; simp
      · have : (j == k) = false := beq_eq_false_iff_ne.2 h
        by_cases h2 : k < j
        · simp [this, h2, show k < j + 1 by omega]
        · simp [this, h2, show ¬ k < j + 1 by omega]
end Go.Proofs.Ytncnghmadeghlaa
