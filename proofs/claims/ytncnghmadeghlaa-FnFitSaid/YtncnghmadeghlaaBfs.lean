/- Plain words on a search by breadth, the way back from a place, and what a change along the way does to a table. -/
import Derived.Test.YtncnghmadeghlaaFlowW
namespace Go.Proofs.Ytncnghmadeghlaa
set_option linter.unusedVariables false

/-- a search among n places along E from root: q the places that are reached, in order; the first k are done, of the next one the first m are tried; par: from where -/
structure Bfs (n root : Nat) (E : Nat → Nat → Prop) (q : List Nat) (k m : Nat) (par : Nat → Int) : Prop where
  mem : ∀ v, v < n → (0 ≤ par v ↔ v ∈ q)
  lt : ∀ v, v ∈ q → v < n
  nd : q.Nodup
  head : q[0]? = some root
  own : par root = root
  tree : ∀ (i v : Nat), q[i]? = some v → 0 < i → ∃ (j u : Nat), j < i ∧ q[j]? = some u ∧ par v = ((u : Nat) : Int) ∧ E u v
  done : ∀ i u v, i < k → q[i]? = some u → v < n → E u v → v ∈ q
  part : ∀ u v, q[k]? = some u → v < m → v < n → E u v → v ∈ q
theorem nodup_len : ∀ (n : Nat) (q : List Nat), q.Nodup → (∀ v, v ∈ q → v < n) → q.length ≤ n
  | 0, [], _, _ => Nat.le_refl _
  | 0, a :: _, _, h => absurd (h a List.mem_cons_self) (by omega)
  | n + 1, q, hd, h => by
    by_cases hn : n ∈ q
    · have h1 := nodup_len n (q.erase n) (hd.erase n) (fun v hv => by
        have := (hd.mem_erase_iff).1 hv
        have := h v this.2
        omega)
      rw [List.length_erase_of_mem hn] at h1
      omega
    · have := nodup_len n q hd (fun v hv => by
        have h1 := h v hv
        have : v ≠ n := fun e => hn (e ▸ hv)
        omega)
      omega
section
variable {n root k m u : Nat} {E : Nat → Nat → Prop} {q : List Nat} {par : Nat → Int}
theorem Bfs.len (h : Bfs n root E q k m par) : q.length ≤ n := nodup_len n q h.nd h.lt
theorem Bfs.pos (h : Bfs n root E q k m par) : 0 < q.length := (List.getElem?_eq_some_iff.1 h.head).1
theorem Bfs.start (hr : root < n) : Bfs n root E [root] 0 0 (up1 (fun _ => -1) root root) where
  mem v hv := by
    by_cases e : v = root
    · subst e; simp [up1]
    · simp [up1, e]
  lt v hv := by simp at hv; omega
  nd := by simp
  head := rfl
  own := by simp [up1]
  tree i v hi h0 := by
    obtain ⟨i, rfl⟩ : ∃ j, i = j + 1 := ⟨i - 1, by omega⟩
    simp at hi
  done i u v hi := by omega
  part u v _ hv := by omega
theorem Bfs.skip (h : Bfs n root E q k m par) (hu : q[k]? = some u) (hm : m < n) (hno : 0 ≤ par m ∨ ¬ E u m) : Bfs n root E q k (m + 1) par := by
  refine ⟨h.mem, h.lt, h.nd, h.head, h.own, h.tree, h.done, fun u' v hu' hv hvn hE => ?_⟩
  rw [hu] at hu'
  injection hu' with hu'
  subst hu'
  by_cases e : v = m
  · subst e
    rcases hno with h1 | h1
    · exact (h.mem v hvn).1 h1
    · exact absurd hE h1
  · exact h.part u v hu (by omega) hvn hE
theorem Bfs.add (h : Bfs n root E q k m par) (hu : q[k]? = some u) (hm : m < n) (hp : par m < 0) (hE : E u m) : Bfs n root E (q ++ [m]) k (m + 1) (up1 par m u) := by
  have hk := (List.getElem?_eq_some_iff.1 hu).1
  have hmq : m ∉ q := fun e => by have := (h.mem m hm).2 e; omega
  have hrm : root ≠ m := fun e => by have := h.own; rw [e] at this; omega
  have hne : ∀ v, v ∈ q → up1 par m u v = par v := fun v hv => by
    have : v ≠ m := fun e => hmq (e ▸ hv)
    simp [up1, this]
  refine ⟨fun v hv => ?_, fun v hv => ?_, ?_, ?_, ?_, fun i v hi h0 => ?_, fun i u' v hi hu' hv hE' => ?_, fun u' v hu' hv hvn hE' => ?_⟩
  · by_cases e : v = m
    · subst e; simp [up1]
    · have := h.mem v hv
      simp [up1, e, this]
  · rcases List.mem_append.1 hv with hv | hv
    · exact h.lt v hv
    · simp at hv; omega
  · rw [List.nodup_append]
    refine ⟨h.nd, by simp, fun a ha b hb => ?_⟩
    simp at hb
    subst hb
    exact fun e => hmq (e ▸ ha)
  · rw [List.getElem?_append_left h.pos]; exact h.head
  · simp [up1, hrm]; exact h.own
  · by_cases hi' : i < q.length
    · rw [List.getElem?_append_left hi'] at hi
      obtain ⟨j, u', h1, h2, h3, h4⟩ := h.tree i v hi h0
      have hv : v ∈ q := List.mem_of_getElem? hi
      exact ⟨j, u', h1, by rw [List.getElem?_append_left (by omega)]; exact h2, by rw [hne v hv]; exact h3, h4⟩
    · rw [List.getElem?_append_right (by omega)] at hi
      have hi2 := (List.getElem?_eq_some_iff.1 hi).1
      simp at hi2
      have e : i - q.length = 0 := by omega
      rw [e] at hi
      simp at hi
      subst hi
      exact ⟨k, u, by omega, by rw [List.getElem?_append_left hk]; exact hu, by simp [up1], hE⟩
  · rw [List.getElem?_append_left (by omega)] at hu'
    exact List.mem_append_left _ (h.done i u' v hi hu' hv hE')
  · rw [List.getElem?_append_left hk, hu] at hu'
    injection hu' with hu'
    subst hu'
    by_cases e : v = m
    · subst e; simp
    · exact List.mem_append_left _ (h.part u v hu (by omega) hvn hE')
theorem Bfs.next (h : Bfs n root E q k m par) (hm : n ≤ m) : Bfs n root E q (k + 1) 0 par := by
  refine ⟨h.mem, h.lt, h.nd, h.head, h.own, h.tree, fun i u v hi hu hv hE => ?_, fun u v _ hv => by omega⟩
  by_cases e : i = k
  · subst e; exact h.part u v hu (by omega) hv hE
  · exact h.done i u v (by omega) hu hv hE
/-- what the search has reached has no way out -/
theorem Bfs.closed (h : Bfs n root E q k m par) (hk : q.length ≤ k) {u v : Nat} (hu : u < n) (hv : v < n) (hr : 0 ≤ par u) (hE : E u v) : 0 ≤ par v := by
  obtain ⟨i, hi⟩ := List.mem_iff_getElem?.1 ((h.mem u hu).1 hr)
  have := (List.getElem?_eq_some_iff.1 hi).1
  exact (h.mem v hv).2 (h.done i u v (by omega) hi hv hE)
end

/-- the way back from s to root -/
structure Way (n root : Nat) (E : Nat → Nat → Prop) (par : Nat → Int) (s : Nat) (L : List Nat) : Prop where
  first : L[0]? = some s
  last : L[L.length - 1]? = some root
  step : ∀ (t v u : Nat), L[t]? = some v → L[t + 1]? = some u → v ≠ root ∧ par v = ((u : Nat) : Int) ∧ E u v
  nd : L.Nodup
  lt : ∀ v, v ∈ L → v < n
section
variable {n root k m : Nat} {E : Nat → Nat → Prop} {q : List Nat} {par : Nat → Int}
theorem Bfs.way_ (h : Bfs n root E q k m par) : ∀ (N i s : Nat), i < N → q[i]? = some s → ∃ L, Way n root E par s L ∧ ∀ v, v ∈ L → ∃ j, j ≤ i ∧ q[j]? = some v
  | 0, i, s, hN, _ => absurd hN (by omega)
  | N + 1, i, s, hN, hs => by
    by_cases h0 : i = 0
    · subst h0
      have e : root = s := by have := h.head; rw [hs] at this; injection this with this; exact this.symm
      subst e
      refine ⟨[root], ⟨rfl, rfl, fun t v u h1 h2 => by simp at h2, by simp, fun v hv => by simp at hv; subst hv; exact h.lt _ (List.mem_of_getElem? hs)⟩, fun v hv => by simp at hv; subst hv; exact ⟨0, Nat.le_refl _, hs⟩⟩
    · obtain ⟨j, u, hj, hu, hp, hE⟩ := h.tree i s hs (by omega)
      obtain ⟨L, hL, hI⟩ := h.way_ N j u (by omega) hu
      have hil := (List.getElem?_eq_some_iff.1 hs).1
      have hinj : ∀ j', j' < i → q[j']? ≠ some s := fun j' hj' e => by
        have := (List.getElem?_inj (i := j') (j := i) (by omega) h.nd).1 (by rw [e, hs])
        omega
      have hsL : s ∉ L := fun e => by
        obtain ⟨j', h1, h2⟩ := hI s e
        exact hinj j' (by omega) h2
      have hsr : s ≠ root := fun e => hinj 0 (by omega) (by rw [e]; exact h.head)
      have hLp : 0 < L.length := (List.getElem?_eq_some_iff.1 hL.first).1
      refine ⟨s :: L, ⟨rfl, ?_, fun t v u' h1 h2 => ?_, List.nodup_cons.2 ⟨hsL, hL.nd⟩, fun v hv => ?_⟩, fun v hv => ?_⟩
      · have := hL.last
        rw [List.length_cons, Nat.add_sub_cancel]
        obtain ⟨d, hd⟩ : ∃ d, L.length = d + 1 := ⟨L.length - 1, by omega⟩
        rw [hd] at this ⊢
        simpa using this
      · cases t with
        | zero =>
          simp at h1
          subst h1
          rw [List.getElem?_cons_succ, hL.first] at h2
          injection h2 with h2
          subst h2
          exact ⟨hsr, hp, hE⟩
        | succ t =>
          rw [List.getElem?_cons_succ] at h1 h2
          exact hL.step t v u' h1 h2
      · rcases List.mem_cons.1 hv with rfl | hv
        · exact h.lt _ (List.mem_of_getElem? hs)
        · exact hL.lt v hv
      · rcases List.mem_cons.1 hv with rfl | hv
        · exact ⟨i, Nat.le_refl _, hs⟩
        · obtain ⟨j', h1, h2⟩ := hI v hv
          exact ⟨j', by omega, h2⟩
theorem Bfs.way (h : Bfs n root E q k m par) {s : Nat} (hs : s < n) (hr : 0 ≤ par s) : ∃ L, Way n root E par s L := by
  obtain ⟨i, hi⟩ := List.mem_iff_getElem?.1 ((h.mem s hs).1 hr)
  obtain ⟨L, hL, _⟩ := h.way_ (i + 1) i s (by omega) hi
  exact ⟨L, hL⟩
end

/-- a step from a row to a column or back over a hidden cell that is not the cell (a, b) -/
def Edge (h wd a b : Nat) (M : Nat → Nat → Bool) (X : Nat → Nat → Int) (raise : Bool) (u v : Nat) : Prop :=
  (∃ k l, u = k ∧ v = h + l ∧ k < h ∧ l < wd ∧ M k l = true ∧ ¬ (k = a ∧ l = b) ∧ (raise = true → 0 < X k l)) ∨
  (∃ k l, u = h + l ∧ v = k ∧ k < h ∧ l < wd ∧ M k l = true ∧ ¬ (k = a ∧ l = b) ∧ (raise = false → 0 < X k l))
section
variable {h wd a b : Nat} {F : Nat → Nat → Int} {M : Nat → Nat → Bool} {X X0 Y : Nat → Nat → Int} {par : Nat → Int} {q : List Nat} {k m : Nat} {raise : Bool}
theorem Edge.col {k l : Nat} (hk : k < h) (hE : Edge h wd a b M X raise k (h + l)) : l < wd ∧ M k l = true ∧ ¬ (k = a ∧ l = b) ∧ (raise = true → 0 < X k l) := by
  rcases hE with ⟨k', l', rfl, e, h1, h2, h3, h4, h5⟩ | ⟨k', l', e1, e2, h1, h2, h3, h4, h5⟩
  · obtain rfl : l = l' := by omega
    exact ⟨h2, h3, h4, h5⟩
  · omega
theorem Edge.row {k l : Nat} (hk : k < h) (hE : Edge h wd a b M X raise (h + l) k) : l < wd ∧ M k l = true ∧ ¬ (k = a ∧ l = b) ∧ (raise = false → 0 < X k l) := by
  rcases hE with ⟨k', l', e1, e2, h1, h2, h3, h4, h5⟩ | ⟨k', l', e, rfl, h1, h2, h3, h4, h5⟩
  · omega
  · obtain rfl : l = l' := by omega
    exact ⟨h2, h3, h4, h5⟩
theorem Edge.cases {u v : Nat} (hE : Edge h wd a b M X raise u v) : (∃ l, u < h ∧ v = h + l ∧ l < wd) ∨ (∃ l, v < h ∧ u = h + l ∧ l < wd) := by
  rcases hE with ⟨k', l', e1, e2, h1, h2, h3, h4, h5⟩ | ⟨k', l', e1, e2, h1, h2, h3, h4, h5⟩
  · exact .inl ⟨l', by omega, by omega, h2⟩
  · exact .inr ⟨l', by omega, by omega, h2⟩
/-- the end of a search that does not reach the column: the cell can't be greater -/
theorem high_end (ha : a < h) (hb : b < wd) (hB : Bfs (h + wd) a (Edge h wd a b M X true) q k m par) (hk : q.length ≤ k) (hno : par (h + b) < 0) (hX : FitG h wd F M a b X) (hY : FitG h wd F M a b Y) : Y a b ≤ X a b := by
  refine cut_high ha hb hX hY (fun k => decide (0 ≤ par k)) (fun l => decide (0 ≤ par (h + l))) ?_ ?_ ?_ ?_
  · have := hB.own; simp [this]
  · simp; omega
  · intro i l hi hl hM hne hR hC
    simp at hR hC
    have h0 := hX.nn i l hi hl hne
    by_cases hp : 0 < X i l
    · have := hB.closed hk (u := i) (v := h + l) (by omega) (by omega) hR (.inl ⟨i, l, rfl, rfl, hi, hl, hM, hne, fun _ => hp⟩)
      omega
    · omega
  · intro i l hi hl hM hne hR hC
    simp at hR hC
    have := hB.closed hk (u := h + l) (v := i) (by omega) (by omega) hC (.inr ⟨i, l, rfl, rfl, hi, hl, hM, hne, fun e => by cases e⟩)
    omega
theorem low_end (ha : a < h) (hb : b < wd) (hB : Bfs (h + wd) a (Edge h wd a b M X false) q k m par) (hk : q.length ≤ k) (hno : par (h + b) < 0) (hX : FitG h wd F M a b X) (hY : FitG h wd F M a b Y) : X a b ≤ Y a b := by
  refine cut_low ha hb hX hY (fun k => decide (0 ≤ par k)) (fun l => decide (0 ≤ par (h + l))) ?_ ?_ ?_ ?_
  · have := hB.own; simp [this]
  · simp; omega
  · intro i l hi hl hM hne hR hC
    simp at hR hC
    have := hB.closed hk (u := i) (v := h + l) (by omega) (by omega) hR (.inl ⟨i, l, rfl, rfl, hi, hl, hM, hne, fun e => by cases e⟩)
    omega
  · intro i l hi hl hM hne hR hC
    simp at hR hC
    have h0 := hX.nn i l hi hl hne
    by_cases hp : 0 < X i l
    · have := hB.closed hk (u := h + l) (v := i) (by omega) (by omega) hC (.inr ⟨i, l, rfl, rfl, hi, hl, hM, hne, fun _ => hp⟩)
      omega
    · omega
end

/-- t steps back along the way L, by d: X0 has become X -/
structure OnWay (h wd : Nat) (F : Nat → Nat → Int) (M : Nat → Nat → Bool) (a b : Nat) (L : List Nat) (X0 : Nat → Nat → Int) (d : Int) (t : Nat) (X : Nat → Nat → Int) : Prop where
  bal : ∀ p, L[t]? = some p → Bal h wd F a p d X
  sh : ∀ k l, k < h → l < wd → M k l = false → X k l = F k l
  ab : X a b = X0 a b + d
  same : ∀ s k l, t ≤ s → (L[s]? = some (h + l) ∧ L[s + 1]? = some k ∨ L[s]? = some k ∧ L[s + 1]? = some (h + l)) → k < h → X k l = X0 k l
  nn : ∀ k l, k < h → l < wd → ¬ (k = a ∧ l = b) → 0 ≤ X k l
  bd : ∀ k l, X k l = X0 k l ∨ X k l = X0 k l + d ∨ X k l = X0 k l - d
section
variable {h wd a b : Nat} {F : Nat → Nat → Int} {M : Nat → Nat → Bool} {X X0 : Nat → Nat → Int} {par : Nat → Int} {L : List Nat} {t : Nat} {d : Int} {raise : Bool} {n : Nat}
theorem OnWay.start (ha : a < h) (hb : b < wd) (hM : M a b = true) (hX : FitG h wd F M a b X0) (hL : Way (h + wd) a (Edge h wd a b M X0 raise) par (h + b) L) : OnWay h wd F M a b L X0 d 0 (up2 X0 a b (X0 a b + d)) where
  bal p hp := by
    rw [hL.first] at hp
    injection hp with hp
    subst hp
    exact Bal.start ha hb hX.rs hX.cs
  sh k l hk hl hm := by
    have : ¬ (k = a ∧ l = b) := fun e => by rw [e.1, e.2, hM] at hm; cases hm
    simp only [up2, if_neg this]
    exact hX.sh k l hk hl hm
  ab := by simp [up2]
  same s k l _ hs hk := by
    have : ¬ (k = a ∧ l = b) := by
      rcases hs with ⟨h1, h2⟩ | ⟨h1, h2⟩
      · exact (Edge.col hk (hL.step s _ _ h1 h2).2.2).2.2.1
      · exact (Edge.row hk (hL.step s _ _ h1 h2).2.2).2.2.1
    simp only [up2, if_neg this]
  nn k l hk hl hne := by
    simp only [up2, if_neg hne]
    exact hX.nn k l hk hl hne
  bd k l := by
    unfold up2
    split
    · next e => obtain ⟨rfl, rfl⟩ := e; exact .inr (.inl rfl)
    · exact .inl rfl
theorem OnWay.toRow {k l : Nat} (hO : OnWay h wd F M a b L X0 d t X) (hL : Way (h + wd) a (Edge h wd a b M X0 raise) par (h + b) L) (h1 : L[t]? = some (h + l)) (h2 : L[t + 1]? = some k) (hk : k < h) (hr : 0 ≤ X0 k l - d) : OnWay h wd F M a b L X0 d (t + 1) (up2 X k l (X k l - d)) := by
  obtain ⟨hl, hM, hne, -⟩ := Edge.col hk (hL.step t _ _ h1 h2).2.2
  have hs := hO.same t k l (Nat.le_refl _) (.inl ⟨h1, h2⟩) hk
  have ht := (List.getElem?_eq_some_iff.1 h1).1
  refine ⟨fun p hp => ?_, fun i j hi hj hm => ?_, ?_, fun s i j hts hij hi => ?_, fun i j hi hj hn => ?_, fun i j => ?_⟩
  · rw [h2] at hp
    injection hp with hp
    subst hp
    exact (hO.bal _ h1).tocol hk hl
  · have : ¬ (i = k ∧ j = l) := fun e => by rw [e.1, e.2, hM] at hm; cases hm
    simp only [up2, if_neg this]
    exact hO.sh i j hi hj hm
  · have : ¬ (a = k ∧ b = l) := fun e => hne ⟨e.1.symm, e.2.symm⟩
    simp only [up2, if_neg this]
    exact hO.ab
  · have : ¬ (i = k ∧ j = l) := by
      rintro ⟨rfl, rfl⟩
      rcases hij with ⟨h3, h4⟩ | ⟨h3, h4⟩
      · have := (List.getElem?_inj (i := t) (j := s) ht hL.nd).1 (by rw [h1, h3]); omega
      · have := (List.getElem?_inj (i := t) (j := s + 1) ht hL.nd).1 (by rw [h1, h4]); omega
    simp only [up2, if_neg this]
    exact hO.same s i j (by omega) hij hi
  · unfold up2
    split
    · next e => obtain ⟨rfl, rfl⟩ := e; omega
    · exact hO.nn i j hi hj hn
  · unfold up2
    split
    · next e => obtain ⟨rfl, rfl⟩ := e; rw [hs]; exact .inr (.inr rfl)
    · exact hO.bd i j
theorem OnWay.toCol {k l : Nat} (hO : OnWay h wd F M a b L X0 d t X) (hL : Way (h + wd) a (Edge h wd a b M X0 raise) par (h + b) L) (h1 : L[t]? = some k) (h2 : L[t + 1]? = some (h + l)) (hk : k < h) (hr : 0 ≤ X0 k l + d) : OnWay h wd F M a b L X0 d (t + 1) (up2 X k l (X k l + d)) := by
  obtain ⟨hl, hM, hne, -⟩ := Edge.row hk (hL.step t _ _ h1 h2).2.2
  have hs := hO.same t k l (Nat.le_refl _) (.inr ⟨h1, h2⟩) hk
  have ht := (List.getElem?_eq_some_iff.1 h1).1
  refine ⟨fun p hp => ?_, fun i j hi hj hm => ?_, ?_, fun s i j hts hij hi => ?_, fun i j hi hj hn => ?_, fun i j => ?_⟩
  · rw [h2] at hp
    injection hp with hp
    subst hp
    exact (hO.bal _ h1).torow hk hl
  · have : ¬ (i = k ∧ j = l) := fun e => by rw [e.1, e.2, hM] at hm; cases hm
    simp only [up2, if_neg this]
    exact hO.sh i j hi hj hm
  · have : ¬ (a = k ∧ b = l) := fun e => hne ⟨e.1.symm, e.2.symm⟩
    simp only [up2, if_neg this]
    exact hO.ab
  · have : ¬ (i = k ∧ j = l) := by
      rintro ⟨rfl, rfl⟩
      rcases hij with ⟨h3, h4⟩ | ⟨h3, h4⟩
      · have := (List.getElem?_inj (i := t) (j := s + 1) ht hL.nd).1 (by rw [h1, h4]); omega
      · have := (List.getElem?_inj (i := t) (j := s) ht hL.nd).1 (by rw [h1, h3]); omega
    simp only [up2, if_neg this]
    exact hO.same s i j (by omega) hij hi
  · unfold up2
    split
    · next e => obtain ⟨rfl, rfl⟩ := e; omega
    · exact hO.nn i j hi hj hn
  · unfold up2
    split
    · next e => obtain ⟨rfl, rfl⟩ := e; rw [hs]; exact .inr (.inl rfl)
    · exact hO.bd i j
theorem OnWay.done (ha : a < h) (hO : OnWay h wd F M a b L X0 d t X) (ht : L[t]? = some a) : FitG h wd F M a b X :=
  ⟨hO.nn, hO.sh, ((hO.bal a ht).done ha).1, ((hO.bal a ht).done ha).2⟩
end
end Go.Proofs.Ytncnghmadeghlaa
