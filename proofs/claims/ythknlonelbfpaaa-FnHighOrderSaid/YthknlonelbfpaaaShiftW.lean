/- Plain words on the room that is left between places, and on a flow along a way. -/
import Derived.Test.YthknlonelbfpaaaBfs
import Derived.Test.YthknlonelbfpaaaBound
namespace Go.Proofs.Ythknlonelbfpaaa
set_option linter.unusedVariables false
/-- a cell may move, as seen from row k and column l -/
def Mov (a b : Nat) (M : Nat → Nat → Bool) (k l : Nat) : Prop := M k l = true ∧ ¬ (k = a ∧ l = b)
instance (a b : Nat) (M : Nat → Nat → Bool) (k l : Nat) : Decidable (Mov a b M k l) := by unfold Mov; infer_instance
/-- the room between two places when the table has become X -/
def roomX (h a b : Nat) (M : Nat → Nat → Bool) (G : Nat → Nat → Int) (gr : Bool) (X : Nat → Nat → Int) : Nat → Nat → Int := fun u v =>
  if u < h ∧ h ≤ v ∧ Mov a b M u (v - h) then (if gr then X u (v - h) else 3168 + G u (v - h) - X u (v - h))
  else if h ≤ u ∧ v < h ∧ Mov a b M v (u - h) then (if gr then 3168 + G v (u - h) - X v (u - h) else X v (u - h)) else 0
/-- the same while it is laid -/
def roomP (h a b : Nat) (M : Nat → Nat → Bool) (G : Nat → Nat → Int) (gr : Bool) (pre : List (Nat × Nat)) : Nat → Nat → Int := fun u v =>
  if u < h ∧ h ≤ v ∧ Mov a b M u (v - h) ∧ (u, v - h) ∈ pre then (if gr then G u (v - h) else 3168)
  else if h ≤ u ∧ v < h ∧ Mov a b M v (u - h) ∧ (v, u - h) ∈ pre then (if gr then 3168 else G v (u - h)) else 0
section
variable {h wd a b : Nat} {M : Nat → Nat → Bool} {G X X0 Y : Nat → Nat → Int} {gr : Bool} {pre : List (Nat × Nat)} {k l : Nat} {d : Int}
theorem roomP_nil : roomP h a b M G gr [] = fun _ _ => 0 := by
  funext u v
  simp [roomP]
theorem roomP_skip (hn : ¬ Mov a b M k l) : roomP h a b M G gr (pre ++ [(k, l)]) = roomP h a b M G gr pre := by
  funext u v
  simp only [roomP]
  have e1 : (u < h ∧ h ≤ v ∧ Mov a b M u (v - h) ∧ (u, v - h) ∈ pre ++ [(k, l)]) ↔ (u < h ∧ h ≤ v ∧ Mov a b M u (v - h) ∧ (u, v - h) ∈ pre) := by
    simp only [List.mem_append, List.mem_singleton, Prod.mk.injEq]
    constructor
    · rintro ⟨h1, h2, h3, h4 | ⟨rfl, rfl⟩⟩
      · exact ⟨h1, h2, h3, h4⟩
      · exact absurd h3 hn
    · rintro ⟨h1, h2, h3, h4⟩
      exact ⟨h1, h2, h3, .inl h4⟩
  have e2 : (h ≤ u ∧ v < h ∧ Mov a b M v (u - h) ∧ (v, u - h) ∈ pre ++ [(k, l)]) ↔ (h ≤ u ∧ v < h ∧ Mov a b M v (u - h) ∧ (v, u - h) ∈ pre) := by
    simp only [List.mem_append, List.mem_singleton, Prod.mk.injEq]
    constructor
    · rintro ⟨h1, h2, h3, h4 | ⟨rfl, rfl⟩⟩
      · exact ⟨h1, h2, h3, h4⟩
      · exact absurd h3 hn
    · rintro ⟨h1, h2, h3, h4⟩
      exact ⟨h1, h2, h3, .inl h4⟩
  simp only [e1, e2]
theorem roomP_set (hk : k < h) (hm : Mov a b M k l) : up2 (up2 (roomP h a b M G gr pre) k (h + l) (if gr then G k l else 3168)) (h + l) k (if gr then 3168 else G k l) = roomP h a b M G gr (pre ++ [(k, l)]) := by
  funext u v
  by_cases e1 : u = h + l ∧ v = k
  · obtain ⟨rfl, rfl⟩ := e1
    have : h + l - h = l := by omega
    simp [up2, roomP, hk, this, hm, show ¬ h + l < h by omega]
  · by_cases e2 : u = k ∧ v = h + l
    · obtain ⟨rfl, rfl⟩ := e2
      have : h + l - h = l := by omega
      have n1 : ¬ (u = h + l ∧ h + l = u) := by omega
      simp only [up2, if_neg n1]
      simp [roomP, hk, this, hm]
    · simp only [up2, if_neg e1, if_neg e2, roomP]
      have q1 : (u < h ∧ h ≤ v ∧ Mov a b M u (v - h) ∧ (u, v - h) ∈ pre ++ [(k, l)]) ↔ (u < h ∧ h ≤ v ∧ Mov a b M u (v - h) ∧ (u, v - h) ∈ pre) := by
        simp only [List.mem_append, List.mem_singleton, Prod.mk.injEq]
        constructor
        · rintro ⟨h1, h2, h3, h4 | ⟨h4, h5⟩⟩
          · exact ⟨h1, h2, h3, h4⟩
          · exact absurd ⟨h4, by omega⟩ e2
        · rintro ⟨h1, h2, h3, h4⟩
          exact ⟨h1, h2, h3, .inl h4⟩
      have q2 : (h ≤ u ∧ v < h ∧ Mov a b M v (u - h) ∧ (v, u - h) ∈ pre ++ [(k, l)]) ↔ (h ≤ u ∧ v < h ∧ Mov a b M v (u - h) ∧ (v, u - h) ∈ pre) := by
        simp only [List.mem_append, List.mem_singleton, Prod.mk.injEq]
        constructor
        · rintro ⟨h1, h2, h3, h4 | ⟨h4, h5⟩⟩
          · exact ⟨h1, h2, h3, h4⟩
          · exact absurd ⟨by omega, h4⟩ e1
        · rintro ⟨h1, h2, h3, h4⟩
          exact ⟨h1, h2, h3, .inl h4⟩
      simp only [q1, q2]
theorem roomP_all : mkT (h + wd) (h + wd) (roomP h a b M G gr (cp wd h 0)) = mkT (h + wd) (h + wd) (roomX h a b M G gr G) := mkT_ext fun u v hu hv => by
  have e1 : (u < h ∧ h ≤ v ∧ Mov a b M u (v - h) ∧ (u, v - h) ∈ cp wd h 0) ↔ (u < h ∧ h ≤ v ∧ Mov a b M u (v - h)) := by
    rw [cp_mem]
    exact ⟨fun ⟨h1, h2, h3, _⟩ => ⟨h1, h2, h3⟩, fun ⟨h1, h2, h3⟩ => ⟨h1, h2, h3, .inl ⟨h1, by show v - h < wd; omega⟩⟩⟩
  have e2 : (h ≤ u ∧ v < h ∧ Mov a b M v (u - h) ∧ (v, u - h) ∈ cp wd h 0) ↔ (h ≤ u ∧ v < h ∧ Mov a b M v (u - h)) := by
    rw [cp_mem]
    exact ⟨fun ⟨h1, h2, h3, _⟩ => ⟨h1, h2, h3⟩, fun ⟨h1, h2, h3⟩ => ⟨h1, h2, h3, .inl ⟨h2, by show u - h < wd; omega⟩⟩⟩
  simp only [roomP, roomX, e1, e2]
  split
  · split <;> omega
  · split
    · split <;> omega
    · rfl
theorem roomX_fwd (hk : k < h) (hm : Mov a b M k l) : roomX h a b M G gr X k (h + l) = if gr then X k l else 3168 + G k l - X k l := by
  have : h + l - h = l := by omega
  simp [roomX, hk, this, hm]
theorem roomX_bwd (hk : k < h) (hm : Mov a b M k l) : roomX h a b M G gr X (h + l) k = if gr then 3168 + G k l - X k l else X k l := by
  have : h + l - h = l := by omega
  simp [roomX, hk, this, hm, show ¬ h + l < h by omega]
/-- the cell (a, b) itself has no room -/
theorem roomX_own (x : Int) : roomX h a b M G gr (up2 X a b x) = roomX h a b M G gr X := by
  funext u v
  simp only [roomX]
  split
  · next e =>
    have : ¬ (u = a ∧ v - h = b) := e.2.2.2
    simp only [up2, if_neg this]
  · split
    · next e =>
      have : ¬ (v = a ∧ u - h = b) := e.2.2.2
      simp only [up2, if_neg this]
    · rfl
/-- what is taken from one side is given to the other -/
theorem roomX_row (hk : k < h) (hm : Mov a b M k l) (x y z : Int) (hx : x = if gr then z else 3168 + G k l - z) (hy : y = if gr then 3168 + G k l - z else z) :
    up2 (up2 (roomX h a b M G gr X) k (h + l) x) (h + l) k y = roomX h a b M G gr (up2 X k l z) := by
  funext u v
  have hl : h + l - h = l := by omega
  by_cases e1 : u = h + l ∧ v = k
  · obtain ⟨rfl, rfl⟩ := e1
    rw [roomX_bwd hk hm]
    simp [up2, hy]
  · by_cases e2 : u = k ∧ v = h + l
    · obtain ⟨rfl, rfl⟩ := e2
      have n1 : ¬ (u = h + l ∧ h + l = u) := by omega
      rw [roomX_fwd hk hm]
      simp only [up2, if_neg n1]
      simp [hx]
    · simp only [up2, if_neg e1, if_neg e2, roomX]
      split
      · next e =>
        have : ¬ (u = k ∧ v - h = l) := fun q => e2 ⟨q.1, by omega⟩
        simp only [if_neg this]
      · split
        · next e =>
          have : ¬ (v = k ∧ u - h = l) := fun q => e1 ⟨by omega, q.1⟩
          simp only [if_neg this]
        · rfl
theorem up2_swap {α : Type} (f : Nat → Nat → α) {i j i' j' : Nat} (x y : α) (hn : ¬ (i = i' ∧ j = j')) : up2 (up2 f i j x) i' j' y = up2 (up2 f i' j' y) i j x := by
  funext u v
  by_cases e1 : u = i ∧ v = j
  · have e2 : ¬ (u = i' ∧ v = j') := fun e => hn ⟨by omega, by omega⟩
    simp only [up2, if_pos e1, if_neg e2]
  · simp only [up2, if_neg e1]
theorem roomX_col (hk : k < h) (hm : Mov a b M k l) (x y z : Int) (hx : x = if gr then z else 3168 + G k l - z) (hy : y = if gr then 3168 + G k l - z else z) :
    up2 (up2 (roomX h a b M G gr X) (h + l) k y) k (h + l) x = roomX h a b M G gr (up2 X k l z) := by
  rw [up2_swap _ _ _ (by omega : ¬ (h + l = k ∧ k = h + l)), roomX_row hk hm x y z hx hy]
/-- there is room just where there is an edge -/
theorem room_edge (ha : a < h) (hb : b < wd) (h4 : h ≤ 4) (w4 : wd ≤ 4) (hG : ∀ i j, 0 ≤ G i j ∧ G i j ≤ 99) (hX : FitG h wd G M a b X) {u v : Nat} (hu : u < h + wd) (hv : v < h + wd) : 0 < roomX h a b M G gr X u v ↔ Edge h wd a b M X gr u v := by
  constructor
  · intro hr
    by_cases hc : u < h ∧ h ≤ v ∧ Mov a b M u (v - h)
    · refine .inl ⟨u, v - h, rfl, by omega, hc.1, by omega, hc.2.2.1, hc.2.2.2, fun e => ?_⟩
      simpa [roomX, hc, e] using hr
    · by_cases hc2 : h ≤ u ∧ v < h ∧ Mov a b M v (u - h)
      · refine .inr ⟨v, u - h, by omega, rfl, hc2.2.1, by omega, hc2.2.2.1, hc2.2.2.2, fun e => ?_⟩
        have n1 : ¬ u < h := by omega
        simpa [roomX, n1, hc2, e] using hr
      · simp only [roomX, if_neg hc, if_neg hc2] at hr
        omega
  · rintro (⟨k, l, rfl, rfl, hk, hl, hM, hne, hp⟩ | ⟨k, l, rfl, rfl, hk, hl, hM, hne, hp⟩)
    · rw [roomX_fwd hk ⟨hM, hne⟩]
      have := fit_le ha hb h4 w4 hG hX hk hl hne
      have := hG u l
      cases gr
      · simp; omega
      · simpa using hp rfl
    · rw [roomX_bwd hk ⟨hM, hne⟩]
      have := fit_le ha hb h4 w4 hG hX hk hl hne
      have := hG v l
      cases gr
      · simpa using hp rfl
      · simp; omega
end
theorem Bfs.congr {n root k m : Nat} {E E' : Nat → Nat → Prop} {q : List Nat} {par : Nat → Int} (h : Bfs n root E q k m par) (he : ∀ u v, u < n → v < n → (E u v ↔ E' u v)) : Bfs n root E' q k m par := by
  refine ⟨h.mem, h.lt, h.nd, h.head, h.own, fun i v hi h0 => ?_, fun i u v hi hu hv hE => ?_, fun u v hu hv hvn hE => ?_⟩
  · obtain ⟨j, u, h1, h2, h3, h4⟩ := h.tree i v hi h0
    exact ⟨j, u, h1, h2, h3, (he u v (h.lt u (List.mem_of_getElem? h2)) (h.lt v (List.mem_of_getElem? hi))).1 h4⟩
  · exact h.done i u v hi hu hv ((he u v (h.lt u (List.mem_of_getElem? hu)) hv).2 hE)
  · exact h.part u v hu hv hvn ((he u v (h.lt u (List.mem_of_getElem? hu)) hvn).2 hE)
section
variable {h wd a b : Nat} {F X0 : Nat → Nat → Int} {M : Nat → Nat → Bool} {par : Nat → Int} {L : List Nat} {d : Int} {raise : Bool}
/-- a flow d goes along the whole way -/
theorem way_push (ha : a < h) (hb : b < wd) (hM : M a b = true) (hX : FitG h wd F M a b X0) (hL : Way (h + wd) a (Edge h wd a b M X0 raise) par (h + b) L)
    (hrow : ∀ t k l, L[t]? = some (h + l) → L[t + 1]? = some k → k < h → 0 ≤ X0 k l - d) (hcol : ∀ t k l, L[t]? = some k → L[t + 1]? = some (h + l) → k < h → 0 ≤ X0 k l + d) : ∃ Z, FitG h wd F M a b Z ∧ Z a b = X0 a b + d := by
  have key : ∀ t, t < L.length → ∃ Z, OnWay h wd F M a b L X0 d t Z := by
    intro t
    induction t with
    | zero => exact fun _ => ⟨_, OnWay.start ha hb hM hX hL⟩
    | succ t ih =>
      intro ht
      obtain ⟨Z, hZ⟩ := ih (by omega)
      obtain ⟨p, hp⟩ : ∃ p, L[t]? = some p := ⟨_, List.getElem?_eq_getElem (by omega)⟩
      obtain ⟨u, hu⟩ : ∃ u, L[t + 1]? = some u := ⟨_, List.getElem?_eq_getElem ht⟩
      rcases Edge.cases (hL.step t p u hp hu).2.2 with ⟨l, h1, rfl, h3⟩ | ⟨l, h1, rfl, h3⟩
      · have hs := hZ.same t u l (Nat.le_refl _) (.inl ⟨hp, hu⟩) h1
        exact ⟨_, hZ.toRow hL hp hu h1 (hrow t u l hp hu h1)⟩
      · exact ⟨_, hZ.toCol hL hp hu h1 (hcol t p l hp hu h1)⟩
  have hpos : 0 < L.length := (List.getElem?_eq_some_iff.1 hL.first).1
  obtain ⟨Z, hZ⟩ := key (L.length - 1) (by omega)
  exact ⟨Z, hZ.done ha hL.last, hZ.ab⟩
end
section
variable {h wd a b : Nat} {F X X' : Nat → Nat → Int} {M : Nat → Nat → Bool} {par : Nat → Int} {L : List Nat} {d : Int}
/-- a table that fits, as low as the flow tells but never below zero -/
theorem low_next (ha : a < h) (hb : b < wd) (hM : M a b = true) (hX : FitG h wd F M a b X) (hL : Way (h + wd) a (Edge h wd a b M X false) par (h + b) L) (hd : 0 ≤ d)
    (hcol : ∀ t k l, L[t]? = some k → L[t + 1]? = some (h + l) → k < h → d ≤ X k l) (hX' : FitG h wd F M a b X') (he : X' a b = X a b - d) (hZ : ∃ Z, FitG h wd F M a b Z ∧ 0 ≤ Z a b ∧ Z a b = max 0 (X a b)) :
    ∃ Z, FitG h wd F M a b Z ∧ 0 ≤ Z a b ∧ Z a b = max 0 (X' a b) := by
  by_cases h1 : 0 ≤ X' a b
  · exact ⟨X', hX', h1, by omega⟩
  · by_cases h2 : 0 ≤ X a b
    · obtain ⟨Z, hZ, e⟩ := way_push (d := -(X a b)) ha hb hM hX hL (fun t k l e1 e2 hk => by
        have := (Edge.col hk (hL.step t _ _ e1 e2).2.2)
        have := hX.nn k l hk this.1 this.2.2.1
        omega) (fun t k l e1 e2 hk => by have := hcol t k l e1 e2 hk; omega)
      exact ⟨Z, hZ, by omega, by omega⟩
    · obtain ⟨Z, z1, z2, z3⟩ := hZ
      exact ⟨Z, z1, z2, by omega⟩
end
end Go.Proofs.Ythknlonelbfpaaa
