/- Plain words on the bounds of a hidden cell, and what the laws on them say. -/
import Derived.Test.YtncnghmadeghlaaFlowW
namespace Go.Proofs.Ytncnghmadeghlaa
set_option linter.unusedVariables false

/-- the greatest number of the cell (a, b) in all tables that fit -/
structure IsHigh (h wd : Nat) (F : Nat → Nat → Int) (M : Nat → Nat → Bool) (a b : Nat) (v : Int) : Prop where
  got : ∃ X, FitG h wd F M a b X ∧ 0 ≤ X a b ∧ X a b = v
  top : ∀ Y, FitG h wd F M a b Y → Y a b ≤ v
/-- the least one -/
structure IsLow (h wd : Nat) (F : Nat → Nat → Int) (M : Nat → Nat → Bool) (a b : Nat) (v : Int) : Prop where
  got : ∃ X, FitG h wd F M a b X ∧ 0 ≤ X a b ∧ X a b = v
  bot : ∀ Y, FitG h wd F M a b Y → 0 ≤ Y a b → v ≤ Y a b
section
variable {h wd a b : Nat} {F : Nat → Nat → Int} {M : Nat → Nat → Bool} {X Y : Nat → Nat → Int} {v u : Int}
theorem fit_self (hF : ∀ i j, 0 ≤ F i j) : FitG h wd F M a b F := ⟨fun i j _ _ _ => hF i j, fun _ _ _ _ _ => rfl, fun _ _ => rfl, fun _ _ => rfl⟩
theorem FitG.at_ {a' b' : Nat} (hX : FitG h wd F M a b X) (h0 : 0 ≤ X a b) : FitG h wd F M a' b' X :=
  ⟨fun i j hi hj _ => by
    by_cases e : i = a ∧ j = b
    · rw [e.1, e.2]; exact h0
    · exact hX.nn i j hi hj e, hX.sh, hX.rs, hX.cs⟩
theorem IsHigh.uniq (h1 : IsHigh h wd F M a b v) (h2 : IsHigh h wd F M a b u) : v = u := by
  obtain ⟨X, hX, -, e1⟩ := h1.got
  obtain ⟨Y, hY, -, e2⟩ := h2.got
  have := h1.top Y hY
  have := h2.top X hX
  omega
theorem IsHigh.ge (hF : ∀ i j, 0 ≤ F i j) (h1 : IsHigh h wd F M a b v) : F a b ≤ v := h1.top F (fit_self hF)
theorem IsLow.le (hF : ∀ i j, 0 ≤ F i j) (h1 : IsLow h wd F M a b v) : v ≤ F a b := h1.bot F (fit_self hF) (hF a b)
theorem IsLow.nn (h1 : IsLow h wd F M a b v) : 0 ≤ v := by
  obtain ⟨X, hX, h0, e⟩ := h1.got
  omega
theorem IsHigh.nn (h1 : IsHigh h wd F M a b v) : 0 ≤ v := by
  obtain ⟨X, hX, h0, e⟩ := h1.got
  omega
theorem high_told (hF : ∀ i j, 0 ≤ F i j) (hT : ∀ X, FitG h wd F M a b X → X a b = F a b) : IsHigh h wd F M a b (F a b) :=
  ⟨⟨F, fit_self hF, hF a b, rfl⟩, fun Y hY => by rw [hT Y hY]; exact Int.le_refl _⟩
theorem low_told (hF : ∀ i j, 0 ≤ F i j) (hT : ∀ X, FitG h wd F M a b X → X a b = F a b) : IsLow h wd F M a b (F a b) :=
  ⟨⟨F, fit_self hF, hF a b, rfl⟩, fun Y hY _ => by rw [hT Y hY]; exact Int.le_refl _⟩
theorem IsHigh.told (hF : ∀ i j, 0 ≤ F i j) (h1 : IsHigh h wd F M a b v) (hT : ∀ X, FitG h wd F M a b X → X a b = F a b) : v = F a b := h1.uniq (high_told hF hT)
theorem IsLow.told (h1 : IsLow h wd F M a b v) (hT : ∀ X, FitG h wd F M a b X → X a b = F a b) : v = F a b := by
  obtain ⟨X, hX, -, e⟩ := h1.got
  rw [← e, hT X hX]
theorem told_shown (ha : a < h) (hb : b < wd) (hM : M a b = false) : ∀ X, FitG h wd F M a b X → X a b = F a b := fun X hX => hX.sh a b ha hb hM

theorem sum_only {n k : Nat} (hk : k < n) {f g : Nat → Int} (hs : sumN n f = sumN n g) (ho : ∀ i, i < n → i ≠ k → f i = g i) : f k = g k := by
  have h1 : sumN n (fun i => f i - g i) = 0 := by rw [sumN_sub]; omega
  rw [sumN_ext (g := fun i => if i = k then f k - g k else 0) (fun i hi => by
    by_cases e : i = k
    · subst e; simp
    · rw [if_neg e, ho i hi e]; omega), sumN_one hk] at h1
  omega
theorem told_row (ha : a < h) (hb : b < wd) (hM : ∀ l, l < wd → l ≠ b → M a l = false) : ∀ X, FitG h wd F M a b X → X a b = F a b := fun X hX =>
  sum_only hb (hX.rs a ha) fun l hl hn => hX.sh a l ha hl (hM l hl hn)
theorem told_col (ha : a < h) (hb : b < wd) (hM : ∀ k, k < h → k ≠ a → M k b = false) : ∀ X, FitG h wd F M a b X → X a b = F a b := fun X hX =>
  sum_only (f := fun i => X i b) (g := fun i => F i b) ha (hX.cs b hb) fun k hk hn => hX.sh k b hk hb (hM k hk hn)
/-- a cell moves at most by what the others of its row can give -/
theorem row_give (ha : a < h) (hb : b < wd) (hF : ∀ i j, 0 ≤ F i j) (hX : FitG h wd F M a b X) : X a b ≤ F a b + sumN wd (fun l => if M a l = true ∧ l ≠ b then F a l else 0) := by
  have h1 : sumN wd (fun l => F a l - X a l) = 0 := by rw [sumN_sub, hX.rs a ha]; omega
  have h2 : sumN wd (fun l => F a l - X a l) ≤ sumN wd (fun l => (if M a l = true ∧ l ≠ b then F a l else 0) + if l = b then F a b - X a b else 0) := sumN_le fun l hl => by
    by_cases e : l = b
    · subst e; simp
    · rw [if_neg e]
      have h0 := hX.nn a l ha hl (fun x => e x.2)
      cases hM : M a l
      · rw [hX.sh a l ha hl hM]; simp
      · simp [e]; omega
  rw [sumN_add, sumN_one hb] at h2
  omega
theorem row_all (ha : a < h) (hb : b < wd) (hX : FitG h wd F M a b X) : X a b ≤ sumN wd (F a) := by
  have h2 : sumN wd (fun l => if l = b then X a b else 0) ≤ sumN wd (X a) := sumN_le fun l hl => by
    by_cases e : l = b
    · subst e; simp
    · rw [if_neg e]; exact hX.nn a l ha hl (fun x => e x.2)
  rw [sumN_one hb, hX.rs a ha] at h2
  exact h2
/-- other cells are no more than a sum of their row or column -/
theorem fit_le (ha : a < h) (hb : b < wd) (h4 : h ≤ 4) (w4 : wd ≤ 4) (hF : ∀ i j, 0 ≤ F i j ∧ F i j ≤ 99) (hX : FitG h wd F M a b X) {k l : Nat} (hk : k < h) (hl : l < wd) (hne : ¬ (k = a ∧ l = b)) : X k l ≤ 396 := by
  by_cases hka : k = a
  · have hlb : l ≠ b := fun e => hne ⟨hka, e⟩
    have h1 : sumN h (fun i => if i = k then X k l else 0) ≤ sumN h (fun i => X i l) := sumN_le fun i hi => by
      by_cases e : i = k
      · subst e; simp
      · rw [if_neg e]; exact hX.nn i l hi hl (fun x => hlb x.2)
    rw [sumN_one hk, hX.cs l hl] at h1
    have h2 := sumN_max (n := h) (f := fun i => F i l) (c := 99) fun i _ => (hF i l).2
    omega
  · have h1 : sumN wd (fun i => if i = l then X k l else 0) ≤ sumN wd (X k) := sumN_le fun i hi => by
      by_cases e : i = l
      · subst e; simp
      · rw [if_neg e]; exact hX.nn k i hk hi (fun x => hka x.1)
    rw [sumN_one hl, hX.rs k hk] at h1
    have h2 := sumN_max (n := wd) (f := F k) (c := 99) fun i _ => (hF k i).2
    omega
theorem fit_own (ha : a < h) (hb : b < wd) (h4 : h ≤ 4) (w4 : wd ≤ 4) (hF : ∀ i j, 0 ≤ F i j ∧ F i j ≤ 99) (hX : FitG h wd F M a b X) : -1584 ≤ X a b ∧ X a b ≤ 396 := by
  have h1 := row_all ha hb hX
  have h2 := sumN_max (n := wd) (f := F a) (c := 99) fun i _ => (hF a i).2
  refine ⟨?_, by omega⟩
  have h3 : sumN wd (X a) ≤ sumN wd (fun l => 396 + if l = b then X a b - 396 else 0) := sumN_le fun l hl => by
    by_cases e : l = b
    · subst e; simp; omega
    · rw [if_neg e]
      have := fit_le ha hb h4 w4 hF hX ha hl (fun x => e x.2)
      omega
  rw [sumN_add, sumN_one hb, sumN_const, hX.rs a ha] at h3
  have h5 := sumN_nonneg (n := wd) (f := F a) fun i _ => (hF a i).1
  omega

/-- FnHighStep -/
theorem IsHigh.rect (ha : a < h) (hb : b < wd) (hF : ∀ i j, 0 ≤ F i j) (h1 : IsHigh h wd F M a b v) {k l : Nat} (hk : k < h) (hl : l < wd) (hka : k ≠ a) (hlb : l ≠ b) (m1 : M a b = true) (m2 : M a l = true) (m3 : M k b = true) (m4 : M k l = true) (m : Int) (h0 : 0 ≤ m) (hm1 : m ≤ F a l) (hm2 : m ≤ F k b) : F a b + m ≤ v := by
  have B0 := Bal.start (d := m) ha hb (F := F) (X := F) (fun _ _ => rfl) (fun _ _ => rfl)
  have B1 := B0.tocol hk hb
  have B2 := B1.torow hk hl
  have B3 := B2.tocol ha hl
  obtain ⟨rs, cs⟩ := B3.done ha
  have e : ∀ i j, up2 (up2 (up2 (up2 F a b (F a b + m)) k b (up2 F a b (F a b + m) k b - m)) k l (up2 (up2 F a b (F a b + m)) k b (up2 F a b (F a b + m) k b - m) k l + m)) a l (up2 (up2 (up2 F a b (F a b + m)) k b (up2 F a b (F a b + m) k b - m)) k l (up2 (up2 F a b (F a b + m)) k b (up2 F a b (F a b + m) k b - m) k l + m) a l - m) i j = F i j + (if i = a ∧ j = b then m else 0) + (if i = k ∧ j = b then -m else 0) + (if i = k ∧ j = l then m else 0) + (if i = a ∧ j = l then -m else 0) := by
    intro i j
    have n1 : ¬ b = l := fun e => hlb e.symm
    have n2 : ¬ a = k := fun e => hka e.symm
    simp only [up2]
    by_cases e1 : i = a <;> by_cases e2 : i = k <;> by_cases e3 : j = b <;> by_cases e4 : j = l <;> simp_all <;> omega
  have hv := h1.top _ ⟨fun i j hi hj hn => ?_, fun i j hi hj hM => ?_, rs, cs⟩
  · rw [e] at hv
    simp [hka.symm, hlb.symm] at hv
    exact hv
  · rw [e]
    have := hF i j
    by_cases e1 : i = a
    · subst e1
      have n3 : ¬ j = b := fun e => hn ⟨rfl, e⟩
      have n2 : ¬ i = k := fun e => hka e.symm
      by_cases e4 : j = l
      · subst e4; simp [n2, n3]; omega
      · simp [n2, n3, e4]; omega
    · by_cases e2 : i = k
      · subst e2
        by_cases e3 : j = b
        · subst e3; simp [e1, hlb.symm]; omega
        · by_cases e4 : j = l
          · subst e4; simp [e1, e3]; omega
          · simp [e1, e3, e4]; omega
      · simp [e1, e2]; omega
  · rw [e]
    have q1 : ¬ (i = a ∧ j = b) := fun e => by rw [e.1, e.2, m1] at hM; cases hM
    have q2 : ¬ (i = k ∧ j = b) := fun e => by rw [e.1, e.2, m3] at hM; cases hM
    have q3 : ¬ (i = k ∧ j = l) := fun e => by rw [e.1, e.2, m4] at hM; cases hM
    have q4 : ¬ (i = a ∧ j = l) := fun e => by rw [e.1, e.2, m2] at hM; cases hM
    rw [if_neg q1, if_neg q2, if_neg q3, if_neg q4]; omega
/-- FnHighZero -/
theorem IsHigh.zero (ha : a < h) (hb : b < wd) (h1 : IsHigh h wd F M a b v) (hs : sumN wd (F a) ≤ 0) : v = 0 := by
  obtain ⟨X, hX, h0, e⟩ := h1.got
  have := row_all ha hb hX
  omega
theorem IsHigh.rest (ha : a < h) (hb : b < wd) (hF : ∀ i j, 0 ≤ F i j) (h1 : IsHigh h wd F M a b v) (hs : sumN wd (fun l => if M a l = true ∧ l ≠ b then F a l else 0) ≤ 0) : v = F a b := by
  obtain ⟨X, hX, h0, e⟩ := h1.got
  have := row_give ha hb hF hX
  have := h1.ge hF
  omega
/-- FnHighPair -/
theorem pair_sum (ha : a < h) {o : Nat} (hb : b < wd) (ho : o < wd) (hob : o ≠ b) (hM : ∀ l, l < wd → l ≠ b → l ≠ o → M a l = false) (hX : FitG h wd F M a b X) : X a b + X a o = F a b + F a o := by
  have h1 : sumN wd (fun i => X a i - F a i) = 0 := by rw [sumN_sub, hX.rs a ha]; omega
  rw [sumN_ext (g := fun i => (if i = b then X a b - F a b else 0) + (if i = o then X a o - F a o else 0)) (fun i hi => by
    by_cases e : i = b
    · subst e; rw [if_pos rfl, if_neg (fun x => hob x.symm)]; omega
    · rw [if_neg e]
      by_cases e2 : i = o
      · subst e2; simp
      · rw [if_neg e2, hX.sh a i ha hi (hM i hi e e2)]; omega), sumN_add, sumN_one hb, sumN_one ho] at h1
  omega
theorem IsHigh.pair (ha : a < h) {o : Nat} (hb : b < wd) (ho : o < wd) (hob : o ≠ b) (hM : ∀ l, l < wd → l ≠ b → l ≠ o → M a l = false) (h1 : IsHigh h wd F M a b v) (h2 : IsLow h wd F M a o u) : v + u = F a b + F a o := by
  obtain ⟨X, hX, hx0, ex⟩ := h1.got
  obtain ⟨Y, hY, hy0, ey⟩ := h2.got
  have p1 := pair_sum ha hb ho hob hM hX
  have hXo : FitG h wd F M a o X := hX.at_ hx0
  have hYb : FitG h wd F M a b Y := hY.at_ hy0
  have p2 := pair_sum ha hb ho hob hM hYb
  have q1 := h2.bot X hXo (hX.nn a o ha ho (fun e => hob e.2))
  have q2 := h1.top Y hYb
  omega
/-- FnHighMore -/
theorem FitG.more {N : Nat → Nat → Bool} (hX : FitG h wd F M a b X) (hMN : ∀ i j, i < h → j < wd → N i j = false → M i j = false) : FitG h wd F N a b X :=
  ⟨hX.nn, fun i j hi hj hn => hX.sh i j hi hj (hMN i j hi hj hn), hX.rs, hX.cs⟩
theorem IsHigh.more {N : Nat → Nat → Bool} (h1 : IsHigh h wd F M a b v) (h2 : IsHigh h wd F N a b u) (hMN : ∀ i j, i < h → j < wd → N i j = false → M i j = false) : v ≤ u := by
  obtain ⟨X, hX, hx0, ex⟩ := h1.got
  have := h2.top X (hX.more hMN)
  omega
theorem IsLow.more {N : Nat → Nat → Bool} (h1 : IsLow h wd F M a b v) (h2 : IsLow h wd F N a b u) (hMN : ∀ i j, i < h → j < wd → N i j = false → M i j = false) : u ≤ v := by
  obtain ⟨X, hX, hx0, ex⟩ := h1.got
  have := h2.bot X (hX.more hMN) hx0
  omega
/-- FnBoundShown -/
theorem FitG.shown {k l : Nat} {z : Int} (hk : k < h) (hl : l < wd) (hM : M k l = false) (hz : 0 ≤ z) (hX : FitG h wd F M a b X) : FitG h wd (up2 F k l z) M a b (up2 X k l z) := by
  have e := hX.sh k l hk hl hM
  refine ⟨fun i j hi hj hn => ?_, fun i j hi hj hm => ?_, fun i hi => ?_, fun j hj => ?_⟩
  · unfold up2
    split
    · exact hz
    · exact hX.nn i j hi hj hn
  · unfold up2
    split
    · rfl
    · exact hX.sh i j hi hj hm
  · rw [row_up2 hl, row_up2 hl, hX.rs i hi, e]
  · rw [col_up2 hk, col_up2 hk, hX.cs j hj, e]
theorem FitG.congr {G : Nat → Nat → Int} (hX : FitG h wd F M a b X) (he : ∀ i j, i < h → j < wd → F i j = G i j) : FitG h wd G M a b X :=
  ⟨hX.nn, fun i j hi hj hm => (hX.sh i j hi hj hm).trans (he i j hi hj), fun i hi => (hX.rs i hi).trans (sumN_ext fun j hj => he i j hi hj), fun j hj => (hX.cs j hj).trans (sumN_ext fun i hi => he i j hi hj)⟩
theorem up2_back (F : Nat → Nat → Int) (k l : Nat) (z : Int) : up2 (up2 F k l z) k l (F k l) = F := by
  funext i j
  unfold up2
  split
  · next e => rw [e.1, e.2]
  · rfl
theorem shown_ne (hM : M a b = true) {k l : Nat} (hm : M k l = false) : ¬ (a = k ∧ b = l) := fun e => by rw [e.1, e.2, hm] at hM; cases hM
theorem IsHigh.shown {k l : Nat} {z : Int} (hk : k < h) (hl : l < wd) (hF : 0 ≤ F k l) (hM : M a b = true) (hm : M k l = false) (hz : 0 ≤ z) (h1 : IsHigh h wd F M a b v) : IsHigh h wd (up2 F k l z) M a b v := by
  have hne := shown_ne hM hm
  obtain ⟨X, hX, hx0, ex⟩ := h1.got
  refine ⟨⟨_, hX.shown hk hl hm hz, by simp only [up2, if_neg hne]; exact hx0, by simp only [up2, if_neg hne]; exact ex⟩, fun Y hY => ?_⟩
  have h2 := hY.shown (z := F k l) hk hl hm hF
  rw [up2_back] at h2
  have h3 := h1.top _ h2
  simp only [up2, if_neg hne] at h3
  exact h3
theorem IsLow.shown {k l : Nat} {z : Int} (hk : k < h) (hl : l < wd) (hF : 0 ≤ F k l) (hM : M a b = true) (hm : M k l = false) (hz : 0 ≤ z) (h1 : IsLow h wd F M a b v) : IsLow h wd (up2 F k l z) M a b v := by
  have hne := shown_ne hM hm
  obtain ⟨X, hX, hx0, ex⟩ := h1.got
  refine ⟨⟨_, hX.shown hk hl hm hz, by simp only [up2, if_neg hne]; exact hx0, by simp only [up2, if_neg hne]; exact ex⟩, fun Y hY hy0 => ?_⟩
  have h2 := hY.shown (z := F k l) hk hl hm hF
  rw [up2_back] at h2
  have h3 := h1.bot _ h2 (by simp only [up2, if_neg hne]; exact hy0)
  simp only [up2, if_neg hne] at h3
  exact h3
theorem IsLow.uniq (h1 : IsLow h wd F M a b v) (h2 : IsLow h wd F M a b u) : v = u := by
  obtain ⟨X, hX, x0, e1⟩ := h1.got
  obtain ⟨Y, hY, y0, e2⟩ := h2.got
  have := h1.bot Y hY y0
  have := h2.bot X hX x0
  omega
end

/-- FnHighOrder: the last row goes first -/
def rotI (h k : Nat) : Nat := if k = 0 then h - 1 else k - 1
def rotB (h k : Nat) : Nat := if k = h - 1 then 0 else k + 1
section
variable {h wd a b : Nat} {F : Nat → Nat → Int} {M : Nat → Nat → Bool} {X Y : Nat → Nat → Int} {v u : Int}
theorem rotI_lt {k : Nat} (hk : k < h) : rotI h k < h := by unfold rotI; split <;> omega
theorem rotB_lt {k : Nat} (hk : k < h) : rotB h k < h := by unfold rotB; split <;> omega
theorem rotBI {k : Nat} (hk : k < h) : rotB h (rotI h k) = k := by
  unfold rotB rotI
  by_cases e : k = 0
  · simp [e]
  · rw [if_neg e, if_neg (by omega)]; omega
theorem rotIB {k : Nat} (hk : k < h) : rotI h (rotB h k) = k := by
  unfold rotB rotI
  by_cases e : k = h - 1
  · simp [e]
  · rw [if_neg e, if_neg (by omega)]; omega
theorem sum_rotI (h : Nat) (f : Nat → Int) : sumN h (fun k => f (rotI h k)) = sumN h f := by
  cases h with
  | zero => rfl
  | succ n =>
    rw [Nat.add_comm, sumN_split 1 n]
    have e1 : sumN 1 (fun k => f (rotI (1 + n) k)) = f n := by
      have : 1 + n - 1 = n := by omega
      simp [sumN, rotI, this]
    have e2 : sumN n (fun k => f (rotI (1 + n) (1 + k))) = sumN n f := sumN_ext fun k _ => by
      have : 1 + k - 1 = k := by omega
      simp [rotI, this]
    rw [e1, e2, Nat.add_comm 1 n, sumN]; omega
theorem sum_rotB (h : Nat) (f : Nat → Int) : sumN h (fun k => f (rotB h k)) = sumN h f := by
  rw [← sum_rotI h (fun k => f (rotB h k))]
  exact sumN_ext fun k hk => by rw [rotBI hk]
theorem FitG.rot (ha : a < h) (hX : FitG h wd F M a b X) : FitG h wd (fun i => F (rotI h i)) (fun i => M (rotI h i)) (rotB h a) b (fun i => X (rotI h i)) :=
  ⟨fun i j hi hj hn => hX.nn _ j (rotI_lt hi) hj (fun e => hn ⟨by rw [← e.1, rotBI hi], e.2⟩), fun i j hi hj hm => hX.sh _ j (rotI_lt hi) hj hm, fun i hi => hX.rs _ (rotI_lt hi), fun j hj => by
    rw [sum_rotI h (fun i => X i j), sum_rotI h (fun i => F i j)]; exact hX.cs j hj⟩
theorem FitG.unrot (ha : a < h) (hX : FitG h wd (fun i => F (rotI h i)) (fun i => M (rotI h i)) (rotB h a) b X) : FitG h wd F M a b (fun i => X (rotB h i)) :=
  ⟨fun i j hi hj hn => hX.nn _ j (rotB_lt hi) hj (fun e => hn ⟨by have := congrArg (rotI h) e.1; rwa [rotIB hi, rotIB ha] at this, e.2⟩), fun i j hi hj hm => by
      have := hX.sh _ j (rotB_lt hi) hj (by rw [rotIB hi]; exact hm)
      rwa [rotIB hi] at this, fun i hi => by
      have := hX.rs _ (rotB_lt hi)
      rwa [rotIB hi] at this, fun j hj => by
    rw [sum_rotB h (fun i => X i j), hX.cs j hj, sum_rotI h (fun i => F i j)]⟩
theorem IsHigh.rot (ha : a < h) (h1 : IsHigh h wd F M a b v) : IsHigh h wd (fun i => F (rotI h i)) (fun i => M (rotI h i)) (rotB h a) b v := by
  obtain ⟨X, hX, hx0, ex⟩ := h1.got
  refine ⟨⟨_, hX.rot ha, by simp only [rotIB ha]; exact hx0, by simp only [rotIB ha]; exact ex⟩, fun Y hY => h1.top _ (hY.unrot ha)⟩
theorem IsLow.rot (ha : a < h) (h1 : IsLow h wd F M a b v) : IsLow h wd (fun i => F (rotI h i)) (fun i => M (rotI h i)) (rotB h a) b v := by
  obtain ⟨X, hX, hx0, ex⟩ := h1.got
  refine ⟨⟨_, hX.rot ha, by simp only [rotIB ha]; exact hx0, by simp only [rotIB ha]; exact ex⟩, fun Y hY hy0 => h1.bot _ (hY.unrot ha) hy0⟩
end
end Go.Proofs.Ytncnghmadeghlaa
