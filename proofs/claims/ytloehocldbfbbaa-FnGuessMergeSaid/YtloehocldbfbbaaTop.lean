/- Plain words on sums of greatest numbers: a list in descending order, the sum of its first ones, and the laws of these. No program. -/
import Init.Data.List.Perm
namespace Go.Proofs.Ytloehocldbfbbaa

def tot : List Int → Int
  | [] => 0
  | x :: r => x + tot r
theorem tot_append (xs ys : List Int) : tot (xs ++ ys) = tot xs + tot ys := by
  induction xs with
  | nil => simp [tot]
  | cons x r ih => simp [tot, ih]; omega
theorem tot_perm {xs ys : List Int} (h : xs.Perm ys) : tot xs = tot ys := by
  induction h with
  | nil => rfl
  | cons x _ ih => simp [tot, ih]
  | swap x y l => simp [tot]; omega
  | trans _ _ h1 h2 => exact h1.trans h2
theorem tot_nonneg {xs : List Int} (h : ∀ x ∈ xs, 0 ≤ x) : 0 ≤ tot xs := by
  induction xs with
  | nil => simp [tot]
  | cons x r ih =>
    have h1 := h x (by simp)
    have h2 := ih fun y hy => h y (by simp [hy])
    simp only [tot]; omega
theorem tot_le {xs : List Int} {m : Int} (h : ∀ x ∈ xs, x ≤ m) : tot xs ≤ xs.length * m := by
  induction xs with
  | nil => simp [tot]
  | cons x r ih =>
    have h1 := h x (by simp)
    have h2 := ih fun y hy => h y (by simp [hy])
    simp only [tot, List.length_cons]
    rw [Int.natCast_add, Int.add_mul]; omega
theorem tot_map2 (xs : List Int) : tot (xs.map fun x => 2 * x) = 2 * tot xs := by
  induction xs with
  | nil => rfl
  | cons x r ih => simp only [List.map_cons, tot, ih]; omega
theorem tot_zero (n : Nat) : tot (List.replicate n 0) = 0 := by
  induction n with
  | zero => rfl
  | succ n ih => simp [List.replicate_succ, tot, ih]

/-- descending -/
abbrev Desc (xs : List Int) : Prop := xs.Pairwise (fun a b => b ≤ a)
def ins (x : Int) : List Int → List Int
  | [] => [x]
  | y :: r => if x ≤ y then y :: ins x r else x :: y :: r
def srt : List Int → List Int
  | [] => []
  | x :: r => ins x (srt r)
theorem ins_perm (x : Int) (l : List Int) : (ins x l).Perm (x :: l) := by
  induction l with
  | nil => exact List.Perm.refl _
  | cons y r ih =>
    simp only [ins]
    split
    · exact (ih.cons y).trans (List.Perm.swap x y r)
    · exact List.Perm.refl _
theorem ins_desc {x : Int} {l : List Int} (h : Desc l) : Desc (ins x l) := by
  induction l with
  | nil => simp [ins]
  | cons y r ih =>
    have h' := List.pairwise_cons.1 h
    simp only [ins]
    split
    · next hxy =>
      refine List.pairwise_cons.2 ⟨fun z hz => ?_, ih h'.2⟩
      rcases List.mem_cons.1 ((ins_perm x r).subset hz) with rfl | hz
      · exact hxy
      · exact h'.1 z hz
    · next hxy =>
      refine List.pairwise_cons.2 ⟨fun z hz => ?_, h⟩
      rcases List.mem_cons.1 hz with rfl | hz
      · omega
      · have := h'.1 z hz; omega
theorem srt_perm (xs : List Int) : (srt xs).Perm xs := by
  induction xs with
  | nil => exact List.Perm.refl _
  | cons x r ih => exact (ins_perm x (srt r)).trans (ih.cons x)
theorem srt_desc (xs : List Int) : Desc (srt xs) := by
  induction xs with
  | nil => simp [srt]
  | cons x r ih => exact ins_desc ih
theorem desc_unique {ys zs : List Int} (h1 : Desc ys) (h2 : Desc zs) (h : ys.Perm zs) : ys = zs :=
  List.Perm.eq_of_pairwise (le := fun a b : Int => b ≤ a) (fun a b _ _ h1 h2 => by omega) h1 h2 h
theorem srt_of {xs ys : List Int} (h : ys.Perm xs) (hd : Desc ys) : ys = srt xs := desc_unique hd (srt_desc xs) (h.trans (srt_perm xs).symm)
theorem srt_eq {xs ys : List Int} (h : ys.Perm xs) : srt ys = srt xs := srt_of ((srt_perm ys).trans h) (srt_desc ys)
theorem srt_mem {xs : List Int} {x : Int} : x ∈ srt xs ↔ x ∈ xs := (srt_perm xs).mem_iff
theorem srt_len (xs : List Int) : (srt xs).length = xs.length := (srt_perm xs).length_eq
theorem srt_snoc (xs : List Int) (m : Int) : srt (xs ++ [m]) = ins m (srt xs) :=
  (srt_of (xs := xs ++ [m]) ((ins_perm m (srt xs)).trans (((srt_perm xs).cons m).trans (List.perm_append_comm (l₁ := [m]) (l₂ := xs)))) (ins_desc (srt_desc xs))).symm

/-- the sum of the n greatest -/
def top (xs : List Int) (n : Nat) : Int := tot ((srt xs).take n)
theorem top_zero (xs : List Int) : top xs 0 = 0 := rfl
theorem top_all {xs : List Int} {n : Nat} (h : xs.length ≤ n) : top xs n = tot xs := by
  rw [top, List.take_of_length_le (by rw [srt_len]; exact h), tot_perm (srt_perm xs)]
theorem top_perm {xs ys : List Int} (h : ys.Perm xs) (n : Nat) : top ys n = top xs n := by rw [top, top, srt_eq h]

/-- the n-th greatest, or 0 -/
def nth (xs : List Int) (n : Nat) : Int := (srt xs).getD n 0
theorem tot_take_succ (l : List Int) (n : Nat) : tot (l.take (n + 1)) = tot (l.take n) + l.getD n 0 := by
  induction l generalizing n with
  | nil => simp [tot]
  | cons x r ih =>
    cases n with
    | zero => simp [tot]
    | succ n => simp only [List.take_succ_cons, tot, ih n, List.getD_cons_succ]; omega
theorem top_succ (xs : List Int) (n : Nat) : top xs (n + 1) = top xs n + nth xs n := tot_take_succ _ _
theorem getD_range {l : List Int} {hi : Int} (h : ∀ x ∈ l, 0 ≤ x ∧ x ≤ hi) (h0 : 0 ≤ hi) (n : Nat) : 0 ≤ l.getD n 0 ∧ l.getD n 0 ≤ hi := by
  rw [List.getD_eq_getElem?_getD]
  cases e : l[n]? with
  | none => simp [h0]
  | some x => exact h x (List.mem_of_getElem? e)
theorem nth_range {xs : List Int} {hi : Int} (h : ∀ x ∈ xs, 0 ≤ x ∧ x ≤ hi) (h0 : 0 ≤ hi) (n : Nat) : 0 ≤ nth xs n ∧ nth xs n ≤ hi :=
  getD_range (fun x hx => h x (srt_mem.1 hx)) h0 n
theorem desc_getD {l : List Int} (hd : Desc l) (hp : ∀ x ∈ l, 0 ≤ x) {i j : Nat} (h : i ≤ j) : l.getD j 0 ≤ l.getD i 0 := by
  induction l generalizing i j with
  | nil => simp
  | cons y r ih =>
    have h' := List.pairwise_cons.1 hd
    cases j with
    | zero => obtain rfl : i = 0 := by omega
              exact Int.le_refl _
    | succ j =>
      cases i with
      | succ i => simpa using ih h'.2 (fun x hx => hp x (by simp [hx])) (show i ≤ j by omega)
      | zero =>
        rw [List.getD_cons_succ, List.getD_cons_zero, List.getD_eq_getElem?_getD]
        cases e : r[j]? with
        | none => simpa using hp y (by simp)
        | some x => exact h'.1 x (List.mem_of_getElem? e)
theorem nth_desc {xs : List Int} (hp : ∀ x ∈ xs, 0 ≤ x) {i j : Nat} (h : i ≤ j) : nth xs j ≤ nth xs i :=
  desc_getD (srt_desc xs) (fun x hx => hp x (srt_mem.1 hx)) h

theorem top_nonneg {xs : List Int} (hp : ∀ x ∈ xs, 0 ≤ x) (n : Nat) : 0 ≤ top xs n :=
  tot_nonneg fun x hx => hp x (srt_mem.1 (List.mem_of_mem_take hx))
theorem top_mono {xs : List Int} (hp : ∀ x ∈ xs, 0 ≤ x) {n m : Nat} (h : n ≤ m) : top xs n ≤ top xs m := by
  induction m with
  | zero => obtain rfl : n = 0 := by omega
            exact Int.le_refl _
  | succ m ih =>
    rcases Nat.lt_or_ge m n with hm | hm
    · obtain rfl : n = m + 1 := by omega
      exact Int.le_refl _
    · have h1 := ih hm
      have h2 : 0 ≤ nth xs m := by
        unfold nth
        rw [List.getD_eq_getElem?_getD]
        cases e : (srt xs)[m]? with
        | none => simp
        | some x => exact hp x (srt_mem.1 (List.mem_of_getElem? e))
      rw [top_succ]; omega
theorem top_le_tot {xs : List Int} (hp : ∀ x ∈ xs, 0 ≤ x) (n : Nat) : top xs n ≤ tot xs := by
  rcases Nat.lt_or_ge n xs.length with h | h
  · rw [← top_all (Nat.le_refl xs.length)]; exact top_mono hp (by omega)
  · rw [top_all h]; exact Int.le_refl _
theorem top_bound {xs : List Int} (hp : ∀ x ∈ xs, 0 ≤ x ∧ x ≤ 100000) (hl : xs.length ≤ 20) (n : Nat) : 0 ≤ top xs n ∧ top xs n ≤ 2000000 := by
  have h1 := top_nonneg (fun x hx => (hp x hx).1) n
  have h2 := top_le_tot (fun x hx => (hp x hx).1) n
  have h3 := tot_le (m := 100000) fun x hx => (hp x hx).2
  omega

/-- a number more, in a descending list -/
theorem take_cons_ge {y : Int} {r : List Int} (hd : Desc (y :: r)) (hp : ∀ x ∈ y :: r, 0 ≤ x) (n : Nat) : tot (r.take n) ≤ tot ((y :: r).take n) := by
  induction n generalizing y r with
  | zero => simp [tot]
  | succ n ih =>
    cases r with
    | nil => simp [tot]; exact hp y (by simp)
    | cons z s =>
      have h' := List.pairwise_cons.1 hd
      have h1 := ih h'.2 (fun x hx => hp x (List.mem_cons_of_mem y hx))
      have h2 := h'.1 z (by simp)
      simp only [List.take_succ_cons, tot] at h1 ⊢
      omega
theorem take_le_succ {l : List Int} (hp : ∀ x ∈ l, 0 ≤ x) (n : Nat) : tot (l.take n) ≤ tot (l.take (n + 1)) := by
  rw [tot_take_succ, List.getD_eq_getElem?_getD]
  cases e : l[n]? with
  | none => simp
  | some x => have := hp x (List.mem_of_getElem? e); simp; omega
theorem ins_take {m : Int} (hm : 0 ≤ m) : ∀ {l : List Int}, Desc l → (∀ x ∈ l, 0 ≤ x) → ∀ n, tot (l.take n) ≤ tot ((ins m l).take n) ∧ tot ((ins m l).take n) ≤ tot (l.take n) + m
  | _, _, _, 0 => by simp [tot]; omega
  | [], _, _, n + 1 => by simp [ins, tot]; omega
  | y :: r, hd, hp, n + 1 => by
    have h' := List.pairwise_cons.1 hd
    simp only [ins]
    split
    · have := ins_take hm h'.2 (fun x hx => hp x (by simp [hx])) n
      simp only [List.take_succ_cons, tot]; omega
    · have h1 := take_cons_ge hd hp n
      have h2 := take_le_succ hp n
      simp only [List.take_succ_cons, tot] at h1 h2 ⊢
      omega
theorem top_add {xs : List Int} (hp : ∀ x ∈ xs, 0 ≤ x) {m : Int} (hm : 0 ≤ m) (n : Nat) : top xs n ≤ top (xs ++ [m]) n ∧ top (xs ++ [m]) n ≤ top xs n + m := by
  rw [top, top, srt_snoc]
  exact ins_take hm (srt_desc xs) (fun x hx => hp x (srt_mem.1 hx)) n
theorem ins_keep {m : Int} (hm : 0 ≤ m) : ∀ {l : List Int}, Desc l → (∀ x ∈ l, 0 ≤ x) → ∀ n, m ≤ l.getD n 0 → tot ((ins m l).take (n + 1)) = tot (l.take (n + 1))
  | [], _, _, n, h => by simp at h; obtain rfl : m = 0 := by omega
                         simp [ins, tot]
  | y :: r, hd, hp, 0, h => by
    simp at h
    simp [ins, h, tot]
  | y :: r, hd, hp, n + 1, h => by
    have h' := List.pairwise_cons.1 hd
    have hy := desc_getD hd hp (Nat.zero_le (n + 1))
    simp only [List.getD_cons_succ, List.getD_cons_zero] at h hy
    simp only [ins]
    rw [if_pos (by omega)]
    have := ins_keep hm h'.2 (fun x hx => hp x (by simp [hx])) n h
    rw [List.take_succ_cons, List.take_succ_cons, tot, tot, this]
theorem top_keep {xs : List Int} (hp : ∀ x ∈ xs, 0 ≤ x) {m : Int} (hm : 0 ≤ m) (n : Nat) (h : m ≤ nth xs n) : top (xs ++ [m]) (n + 1) = top xs (n + 1) := by
  rw [top, top, srt_snoc]
  exact ins_keep hm (srt_desc xs) (fun x hx => hp x (srt_mem.1 hx)) n h
theorem top_zero_add {xs : List Int} (hp : ∀ x ∈ xs, 0 ≤ x) (n : Nat) : top (xs ++ [0]) n = top xs n := by
  have := top_add hp (Int.le_refl 0) n
  omega
theorem top_twice (xs : List Int) (n : Nat) : top (xs.map fun x => 2 * x) n = 2 * top xs n := by
  have h : (srt xs).map (fun x => 2 * x) = srt (xs.map fun x => 2 * x) := srt_of ((srt_perm xs).map _) (by
    refine List.Pairwise.map _ ?_ (srt_desc xs)
    intro a b h
    omega)
  rw [top, ← h, ← List.map_take, tot_map2]; rfl
theorem top_ge_take {xs : List Int} (hp : ∀ x ∈ xs, 0 ≤ x) (n : Nat) : tot (xs.take n) ≤ top xs n := by
  have key : ∀ (b a : List Int), (∀ x ∈ a ++ b, 0 ≤ x) → tot a ≤ top (a ++ b) a.length := by
    intro b
    induction b with
    | nil => intro a _; rw [List.append_nil, top_all (Nat.le_refl _)]; exact Int.le_refl _
    | cons m b ih =>
      intro a h
      have h0 : ∀ x ∈ a ++ b, 0 ≤ x := fun x hx => h x (by
        rcases List.mem_append.1 hx with hx | hx
        · exact List.mem_append_left _ hx
        · exact List.mem_append_right _ (List.mem_cons_of_mem _ hx))
      have h1 := ih a h0
      have h2 := (top_add h0 (h m (by simp)) a.length).1
      have hp : (a ++ m :: b).Perm (a ++ b ++ [m]) := by
        rw [List.append_assoc]
        exact List.Perm.append_left a (List.perm_append_comm (l₁ := [m]) (l₂ := b))
      rw [top_perm hp]
      omega
  have := key (xs.drop n) (xs.take n) (by rw [List.take_append_drop]; exact hp)
  rw [List.take_append_drop] at this
  exact Int.le_trans this (top_mono hp (by simp; omega))

/-- the numbers above a bound -/
def abv (b : Int) : List Int → Int × Int
  | [] => (0, 0)
  | x :: r => if b < x then (x + (abv b r).1, 1 + (abv b r).2) else abv b r
theorem abv_append (b : Int) (xs ys : List Int) : abv b (xs ++ ys) = ((abv b xs).1 + (abv b ys).1, (abv b xs).2 + (abv b ys).2) := by
  induction xs with
  | nil => simp [abv]
  | cons x r ih => simp only [List.cons_append, abv, ih]; split <;> simp <;> omega
theorem abv_perm (b : Int) {xs ys : List Int} (h : xs.Perm ys) : abv b xs = abv b ys := by
  induction h with
  | nil => rfl
  | cons x _ ih => simp only [abv, ih]
  | swap x y l => simp only [abv]; split <;> split <;> simp <;> omega
  | trans _ _ h1 h2 => exact h1.trans h2
theorem abv_none {b : Int} {l : List Int} (h : ∀ x ∈ l, x ≤ b) : abv b l = (0, 0) := by
  induction l with
  | nil => rfl
  | cons x r ih =>
    have := h x (by simp)
    simp only [abv]
    rw [if_neg (by omega)]
    exact ih fun y hy => h y (by simp [hy])
theorem abv_le {b : Int} {l : List Int} (hp : ∀ x ∈ l, 0 ≤ x) : (0 ≤ (abv b l).1 ∧ (abv b l).1 ≤ tot l) ∧ (0 ≤ (abv b l).2 ∧ (abv b l).2 ≤ l.length) := by
  induction l with
  | nil => simp [abv, tot]
  | cons x r ih =>
    have h1 := hp x (by simp)
    have h2 := ih fun y hy => hp y (by simp [hy])
    simp only [abv, tot, List.length_cons]
    split <;> simp <;> omega
theorem abv_top {xs : List Int} (hp : ∀ x ∈ xs, 0 ≤ x) (n : Nat) : (abv (nth xs n) xs).1 ≤ top xs n ∧ (abv (nth xs n) xs).2 ≤ n := by
  have hs : ∀ x ∈ srt xs, 0 ≤ x := fun x hx => hp x (srt_mem.1 hx)
  have h1 : abv (nth xs n) xs = abv (nth xs n) (srt xs) := (abv_perm _ (srt_perm xs)).symm
  have h2 : abv (nth xs n) ((srt xs).drop n) = (0, 0) := abv_none fun x hx => by
    obtain ⟨j, hj⟩ := List.mem_iff_getElem?.1 hx
    rw [List.getElem?_drop] at hj
    have := desc_getD (srt_desc xs) hs (show n ≤ n + j by omega)
    rw [List.getD_eq_getElem?_getD, hj] at this
    exact this
  have h3 := abv_append (nth xs n) ((srt xs).take n) ((srt xs).drop n)
  rw [List.take_append_drop, h2] at h3
  have h4 := abv_le (b := nth xs n) (l := (srt xs).take n) (fun x hx => hs x (List.mem_of_mem_take hx))
  have h5 : ((srt xs).take n).length ≤ n := List.length_take_le _ _
  rw [h1, h3]
  simp only [Int.add_zero]
  refine ⟨h4.1.2, by omega⟩
end Go.Proofs.Ytloehocldbfbbaa
