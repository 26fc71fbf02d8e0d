/- Tables of integers and of flags that came in, as the kit hands them over. -/
import Derived.Test.YtncnghmadeghlaaTab
import Derived.Deep.Matrix
import Derived.OpenShut
namespace Go.Proofs.Ytncnghmadeghlaa
open Go.RowKit Go.Deep Go.ChangeShapes
set_option linter.unusedVariables false
theorem add_at (b o j : Nat) : (⟨b, o, none⟩ : Addr).add j = ⟨b, o + j, none⟩ := by
  unfold Addr.add
  split
  · next h0 => subst h0; rfl
  · rfl
/-- rows with their cells make a table -/
theorem tab_of_rows {α : Type} {f : α → Value} {w : World} {a : Addr} {len cap : Nat} {A : Nat → Option Addr} {C : Nat → Nat} {R : Nat → List α} (hl : len ≤ cap)
    (hrow : ∀ r, r < cap → w.cell? (a.add r) = some (.slice (A r) (R r).length (C r)) ∧ Lst f w (A r) (C r) (R r)) : Tab f w (some a) ((List.range len).map R) := fun hn => by
  have hn' : 0 < len := by simpa using hn
  obtain ⟨b, off, spot⟩ := a
  have h0 := (hrow 0 (by omega)).1
  have hspot : spot = none := by simpa [Addr.add] using World.cell?_spot h0
  subst hspot
  have hb : b < w.heap.size := by
    rcases Nat.lt_or_ge b w.heap.size with h | h
    · exact h
    · exfalso
      simp [Addr.add, World.cell?, Array.getElem?_eq_none h] at h0
  refine ⟨b, off, rfl, hb, fun j r hr => ?_⟩
  rw [List.getElem?_map] at hr
  by_cases hj : j < len
  · rw [List.getElem?_range hj] at hr
    simp at hr
    subst hr
    have h := hrow j (by omega)
    rw [add_at] at h
    exact ⟨_, _, h.1, h.2⟩
  · rw [List.getElem?_eq_none (by simpa using hj)] at hr
    cases hr
theorem lst_of_ints {k : IntKind} {w : World} {A : Option Addr} {L C : Nat} {Z : List Int} (h1 : L ≤ C) (h2 : C ≤ maxLen) (h3 : Z.length = C) (h4 : A = none → C = 0)
    (h5 : ∀ a', A = some a' → ∀ c, c < C → w.cell? (a'.add c) = some (.int k (Z.getD c 0))) : Lst (Value.int k) w A C (Z.take L) := by
  refine ⟨?_, by rw [List.length_take]; omega, h2, h4⟩
  rcases A with _ | a'
  · have := h4 rfl
    rw [show L = 0 by omega, List.take_zero]
    exact Seq.nil_
  · exact seq_of_ints h1 h3 fun i hi => h5 a' rfl i (by omega)
section
variable {H : Type} {enc : TypeId × Value → H} {P : Program} {w : World} {base : Nat} {held : Bool}
theorem open_tab_ints {t e q : TypeId} {fuel : Nat} {A : Option Addr} {len cap : Nat} {x : DataW H × List MemPlace} (ht : P.underlying t = some (.slice e)) (he : P.underlying e = some (.slice q)) (hq : P.underlying q = some (.int .i64))
    (ce : P.cellsOf e = 1) (cq : P.cellsOf q = 1) (h : DataW.trod enc P w base (fun _ => true) held fuel t [.slice A len cap] = some x) :
    ∃ s : List (List Int), len = s.length ∧ s.length ≤ maxLen ∧ Tab (Value.int .i64) w A s ∧ s.length ≤ cap ∧ cap ≤ maxLen ∧ ∀ r ∈ s, ∀ n ∈ r, (Lit.int .i64 n).wf = true := by
  rcases open_int_rows ht he hq ce cq h with ⟨hcs, _⟩ | ⟨a, l, c, AA, L, C, Z, hcs, _, hl, hm, _, hrow⟩
  · simp at hcs
    obtain ⟨rfl, rfl, rfl⟩ := hcs
    exact ⟨[], rfl, by simp, Tab.nil_, by simp, by unfold maxLen; omega, by simp⟩
  · simp at hcs
    obtain ⟨rfl, rfl, rfl⟩ := hcs
    refine ⟨(List.range len).map fun r => (Z r).take (L r), by simp, by simp; omega, ?_, by simpa using hl, hm, ?_⟩
    · refine tab_of_rows (A := AA) (C := C) (cap := cap) hl fun r hr => ?_
      obtain ⟨h1, h2, h3, h4, h5, h6, h7⟩ := hrow r hr
      refine ⟨?_, lst_of_ints h2 h3 h4 h6 fun a' ha' c hc => (h7 a' ha').2 c hc⟩
      rw [h1, List.length_take, show min (L r) (Z r).length = L r by omega]
    · intro r hr n hn
      obtain ⟨j, hj, rfl⟩ := List.mem_map.1 hr
      exact (hrow j (by have := List.mem_range.1 hj; omega)).2.2.2.2.1 n (List.mem_of_mem_take hn)
/-- a row of flags that came in -/
theorem open_flags {e q : TypeId} {fuel : Nat} {v : Value} {x : DataW H × List MemPlace} (he : P.underlying e = some (.slice q)) (hq : P.underlying q = some .bool) (cq : P.cellsOf q = 1)
    (h : DataW.trod enc P w base (fun _ => true) held fuel e [v] = some x) : ∃ (A : Option Addr) (c : Nat) (r : List Bool), v = .slice A r.length c ∧ Lst Value.bool w A c r := by
  rcases open_slice1 he cq h with ⟨hcs, _⟩ | ⟨a, l, c, m, n, V, D, Pl, hcs, _, hl, hm, hmm, _, hx⟩
  · simp at hcs
    subst hcs
    exact ⟨none, 0, [], rfl, Seq.nil_, by simp, by unfold maxLen; omega, fun _ => rfl⟩
  · simp at hcs
    subst hcs
    simp only [if_true] at hmm
    subst hmm
    have each : ∀ i, i < m → ∃ b, V i = .bool b := fun i hi => by
      obtain ⟨b, hb, _⟩ := DataW.trod_bool hq (hx i hi).2
      simp at hb
      exact ⟨b, hb⟩
    have hV : ∀ i, i < m → V i = .bool ((match V i with | .bool b => b | _ => false)) := fun i hi => by
      obtain ⟨b, hb⟩ := each i hi
      rw [hb]
    refine ⟨some a, m, (List.range l).map fun i => (match V i with | .bool b => b | _ => false), by simp, fun hn => ?_, by simpa using hl, hm, fun h => by cases h⟩
    have hn' : 0 < l := by simpa using hn
    obtain ⟨b, off, spot⟩ := a
    have h0 := (hx 0 (by omega)).1
    have hspot : spot = none := by simpa [Addr.add] using World.cell?_spot h0
    subst hspot
    have hb : b < w.heap.size := by
      rcases Nat.lt_or_ge b w.heap.size with h | h
      · exact h
      · exfalso
        simp [Addr.add, World.cell?, Array.getElem?_eq_none h] at h0
    refine ⟨b, off, rfl, hb, fun j y hy => ?_⟩
    rw [List.getElem?_map] at hy
    by_cases hj : j < l
    · rw [List.getElem?_range hj] at hy
      simp at hy
      have h := (hx j (by omega)).1
      rw [add_at, hV j (by omega)] at h
      rw [h, ← hy]
    · rw [List.getElem?_eq_none (by simpa using hj)] at hy
      cases hy
theorem open_tab_bools {t e q : TypeId} {fuel : Nat} {A : Option Addr} {len cap : Nat} {x : DataW H × List MemPlace} (ht : P.underlying t = some (.slice e)) (he : P.underlying e = some (.slice q)) (hq : P.underlying q = some .bool)
    (ce : P.cellsOf e = 1) (cq : P.cellsOf q = 1) (h : DataW.trod enc P w base (fun _ => true) held fuel t [.slice A len cap] = some x) :
    ∃ s : List (List Bool), len = s.length ∧ s.length ≤ maxLen ∧ Tab Value.bool w A s ∧ s.length ≤ cap ∧ cap ≤ maxLen := by
  rcases open_slice1 ht ce h with ⟨hcs, _⟩ | ⟨a, l, c, m, n, V, D, Pl, hcs, _, hl, hm, hmm, _, hx⟩
  · simp at hcs
    obtain ⟨rfl, rfl, rfl⟩ := hcs
    exact ⟨[], rfl, by simp, Tab.nil_, by simp, by unfold maxLen; omega⟩
  · simp at hcs
    obtain ⟨rfl, rfl, rfl⟩ := hcs
    simp only [if_true] at hmm
    subst hmm
    have each : ∀ i, ∃ (y : Option Addr × Nat × List Bool), i < m → V i = .slice y.1 y.2.2.length y.2.1 ∧ Lst Value.bool w y.1 y.2.1 y.2.2 := fun i => by
      by_cases hi : i < m
      · obtain ⟨A', c', r', h1, h2⟩ := open_flags he hq cq (hx i hi).2
        exact ⟨(A', c', r'), fun _ => ⟨h1, h2⟩⟩
      · exact ⟨(none, 0, []), fun h => absurd h hi⟩
    obtain ⟨Y, hY⟩ := Classical.axiomOfChoice each
    refine ⟨(List.range len).map fun r => (Y r).2.2, by simp, by simp; omega, ?_, by simpa using hl, hm⟩
    refine tab_of_rows (A := fun r => (Y r).1) (C := fun r => (Y r).2.1) (R := fun r => (Y r).2.2) (cap := m) hl fun r hr => ?_
    have h1 := hY r hr
    refine ⟨?_, h1.2⟩
    rw [(hx r hr).1, h1.1]
end
end Go.Proofs.Ytncnghmadeghlaa
