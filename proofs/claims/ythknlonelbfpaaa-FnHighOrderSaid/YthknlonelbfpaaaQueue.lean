/- A queue: a slice of the call's own that is appended to behind and cut ahead. -/
import Derived.Test.YthknlonelbfpaaaPathS
import Derived.ArgAppend
namespace Go.Proofs.Ythknlonelbfpaaa
open Go.RowKit
set_option linter.unusedVariables false
/-- the slice leads to us, somewhere in a block of the call's own -/
def QMem (E : TypeId) (B : Nat) (w : World) (A : Option Addr) (cap : Nat) (us : List Value) : Prop :=
  us.length ≤ cap ∧ cap ≤ maxLen ∧ ∃ b off cs, A = some ⟨b, off, none⟩ ∧ B ≤ b ∧ Blk w b E cs ∧ off + cap ≤ cs.size ∧ ∀ j u, us[j]? = some u → cs[off + j]? = some u
section
variable {E : TypeId} {B : Nat} {w w' : World} {A : Option Addr} {cap : Nat} {us : List Value}
theorem QMem.keep (h : QMem E B w A cap us) (hk : ∀ b, (Value.slice A us.length cap).ownBlock = some b → w'.heap[b]? = w.heap[b]?) : QMem E B w' A cap us := by
  obtain ⟨h1, h2, b, off, cs, rfl, hB, hb, hs, hc⟩ := h
  exact ⟨h1, h2, b, off, cs, rfl, hB, (hk b rfl).trans hb, hs, hc⟩
theorem QMem.head {u : Value} {r : List Value} (h : QMem E B w A cap (u :: r)) : ∃ b off, A = some ⟨b, off, none⟩ ∧ B ≤ b ∧ b < w.heap.size ∧ w.cell? ⟨b, off, none⟩ = some u := by
  obtain ⟨h1, h2, b, off, cs, rfl, hB, hb, hs, hc⟩ := h
  refine ⟨b, off, rfl, hB, hb.lt, ?_⟩
  rw [hb.cell off]
  exact hc 0 u rfl
theorem QMem.one {u : Value} (w : World) (hB : B ≤ w.heap.size) (hb : Blk w' w.heap.size E #[u]) : QMem E B w' (some ⟨w.heap.size, 0, none⟩) 1 [u] :=
  ⟨by simp, by unfold maxLen; omega, w.heap.size, 0, #[u], rfl, hB, hb, by simp, fun j v hj => by simpa using hj⟩
/-- the cut ahead -/
theorem QMem.tail {u : Value} {r : List Value} (h : QMem E B w A cap (u :: r)) : QMem E B w (if cap = 1 then A else A.map (·.add 1)) (cap - 1) r := by
  obtain ⟨h1, h2, b, off, cs, rfl, hB, hb, hs, hc⟩ := h
  simp only [List.length_cons] at h1
  by_cases hc1 : cap = 1
  · rw [if_pos hc1]
    have : r = [] := List.eq_nil_of_length_eq_zero (by omega)
    subst this
    exact ⟨by simp, by omega, b, off, cs, rfl, hB, hb, by omega, fun j v hj => by simp at hj⟩
  · rw [if_neg hc1]
    refine ⟨by omega, by omega, b, off + 1, cs, by simp [Addr.add], hB, hb, by omega, fun j v hj => ?_⟩
    have := hc (j + 1) v (by simpa using hj)
    rwa [show off + 1 + j = off + (j + 1) by omega]
theorem QMem.of_own {v : Value} {n : Nat} (h : w.ownsRow B E 1 v n us) (hn : 0 < n) : ∃ g c, v = .slice (some ⟨g, 0, none⟩) n c ∧ B ≤ g ∧ g < w.heap.size ∧ QMem E B w (some ⟨g, 0, none⟩) c us := by
  obtain ⟨hl, h2⟩ := h
  rcases h2 with ⟨_, h0⟩ | ⟨g, c, cur, rfl, hB, hg, hnc, hcm, hcs, ht⟩
  · omega
  · have hlt : g < w.heap.size := (show Blk w g E cur from hg).lt
    refine ⟨g, c, rfl, hB, hlt, by omega, hcm, g, 0, cur, rfl, hB, hg, by omega, fun j u hj => ?_⟩
    have hjl := (List.getElem?_eq_some_iff.1 hj).1
    rw [← ht, List.getElem?_take_of_lt (by omega)] at hj
    rw [Nat.zero_add]
    simpa using hj
end
section
variable {P : Program}
/-- append(queue, u) -/
theorem appQ {ops : Array Oper} {rest : List Oper} {o : Oper} {a : Act} {Q : Exit → Act → World → Prop} (hgd : o.guard = none) (s y : Operand) (t : TypeId)
    (ho : o.op = .call { callee := .builtin .append, args := #[s, y], argTypes := #[t, t] })
    (w : World) (sz : Nat) (hsz : w.heap.size = sz) (B : Nat) (E : TypeId) (z : Value) (bytes : Nat) (ht : P.underlying t = some (.slice E)) (hinfo : (P.info? E).map (fun i => (i.zero, i.size, i.bytes)) = some (some z, 1, bytes)) (hz1 : z.cells.size = 1)
    (A : Option Addr) (n c : Nat) (us : List Value) (hnx : us.length = n) (hs : a.eval s = .slice A n c) (hq : QMem E B w A c us)
    (u : Value) (hx : a.eval y = .slice (some ⟨sz, 0, none⟩) 1 1) (h1 : u.oneCell' = true) (hn : n ≤ 1048576) (hby : bytes ≤ 1000) (hbase : B ≤ w.heap.size)
    (h : ∀ A' c' w', QMem E B w' A' c' (us ++ [u]) → w.grownBy w' (Value.slice A n c).ownBlock →
      (∀ b, (Value.slice A' (n + 1) c').ownBlock = some b → (Value.slice A n c).ownBlock = some b ∨ w.heap.size ≤ b) → wpList P ops Q rest (a.put o.dst (.slice A' (n + 1) c')) w') :
    wpList P ops Q (o :: rest) a (w.alloc (.cells #[u] E)) := by
  subst hsz hnx
  obtain ⟨q1, q2, b, off, cs, rfl, hB, hb, hsz, hc⟩ := hq
  obtain ⟨i, hi, hz, hsi, hbi⟩ := info_parts hinfo
  have hba : Blk (w.alloc (.cells #[u] E)) b E cs := hb.alloc _
  refine wpList_append_arg _ hgd s y t ho E i z 1 bytes ht hi hz hsi hbi hz1 (by decide) b off us.length c us hs (by simp) (fun j v hj => by rw [hba.cell]; exact hc j v hj)
    ⟨w.heap.size, 0, none⟩ 1 1 [u] hx (by simp) (cell_one_new _ _ _) (by simpa using h1) ?_ (by unfold maxLen; omega) ?_ ?_ ?_
  · intro hr j hj
    have hj0 : j = 0 := by simp at hj; omega
    subst hj0
    rw [hba.cell, hba.frozen]
    have hlt : off + us.length < cs.size := by omega
    simp [hlt]
  · have : (us.length + 1) * bytes ≤ 1048577 * 1000 := Nat.mul_le_mul (by omega) hby
    omega
  · intro hr
    show wpList P ops Q rest _ ((w.alloc (.cells #[u] E)).setCell ⟨b, off + us.length * 1, none⟩ u)
    rw [Nat.mul_one]
    refine h _ _ _ ?_ ?_ (fun b' hb' => .inl hb')
    · refine ⟨by simpa using hr, q2, b, off, _, rfl, hB, hba.set_ (off + us.length) u, by simpa using hsz, fun j v hj => ?_⟩
      by_cases hjl : j < us.length
      · rw [List.getElem?_append_left hjl] at hj
        rw [Array.getElem?_setIfInBounds, if_neg (by omega)]
        exact hc j v hj
      · rw [List.getElem?_append_right (by omega)] at hj
        have hj1 := (List.getElem?_eq_some_iff.1 hj).1
        simp at hj1
        have hj0 : j = us.length := by omega
        subst hj0
        rw [Array.getElem?_setIfInBounds, if_pos rfl, if_pos (by omega)]
        simpa using hj
    · refine ⟨rfl, rfl, rfl, by simp [World.setCell], fun k hk hne => ?_⟩
      exact (Below.heap_setCell _ _ _ k (fun e => hne (by rw [show k = b from e]; rfl))).trans (Below.heap_alloc _ _ _ hk)
  · intro hr v' w' ho' hg'
    obtain ⟨g, c', rfl, hBg, hgl, hqm⟩ := QMem.of_own ho' (by omega)
    have hgs : w.heap.size + 1 ≤ g := by simpa using hBg
    refine h _ _ _ ?_ ?_ (fun b' hb' => .inr (by have : g = b' := by simpa [Value.ownBlock] using hb'
                                                 omega))
    · obtain ⟨r1, r2, b', off', cs', e, hB', hb', hs', hc'⟩ := hqm
      exact ⟨r1, r2, b', off', cs', e, by have := hbase; simp at hB'; omega, hb', hs', hc'⟩
    · exact ⟨hg'.os, hg'.tape, hg'.output, by have := hg'.size; simp at this; omega, fun k hk hne => (hg'.block k (by simp; omega) (by simp)).trans (Below.heap_alloc _ _ _ hk)⟩
end
/-- the two lists of the program's search -/
structure QLists (E : TypeId) (B n : Nat) (Ap : Option Addr) (cp : Nat) (Aq : Option Addr) (cq : Nat) (us : List Nat) (par : Nat → Int) (w : World) : Prop where
  pr : w.ownsRow B E 1 (.slice Ap n cp) n ((mkL n par).map IntV)
  qm : QMem E B w Aq cq (us.map IntN)
  ds : ∀ b, (Value.slice Aq us.length cq).ownBlock = some b → (Value.slice Ap n cp).ownBlock ≠ some b
section
variable {E : TypeId} {B n : Nat} {Ap Aq : Option Addr} {cp cq : Nat} {us : List Nat} {par : Nat → Int} {w w6 : World}
theorem QLists.store (h : QLists E B n Ap cp Aq cq us par w) {m : Nat} (hm : m < n) (x : Int) : ∃ b, Ap = some ⟨b, 0, none⟩ ∧ B ≤ b ∧ b < w.heap.size ∧ w.cell? ⟨b, m, none⟩ = some (.int .i64 (par m)) ∧ w.frozen? ⟨b, m, none⟩ = false ∧
    QLists E B n Ap cp Aq cq us (up1 par m x) (w.setCell ⟨b, m, none⟩ (.int .i64 x)) := by
  obtain ⟨b, rfl, h1, h2, h3, h4, h5⟩ := own_mk h.pr hm
  refine ⟨b, rfl, h1, h2, h3, h4, ⟨h5 x, h.qm.keep fun b' hb' => Below.heap_setCell _ _ _ b' (fun e => h.ds b' (by rw [List.length_map] at hb'; exact hb') (by rw [show b' = b from e]; rfl)), h.ds⟩⟩
theorem QLists.push {A' : Option Addr} {c' m : Nat} (h : QLists E B n Ap cp Aq cq us par w) (ho : QMem E B w6 A' c' (us.map IntN ++ [.int .i64 m])) (hg : w.grownBy w6 (Value.slice Aq us.length cq).ownBlock)
    (hn : ∀ b, (Value.slice A' (us.length + 1) c').ownBlock = some b → (Value.slice Aq us.length cq).ownBlock = some b ∨ w.heap.size ≤ b) : QLists E B n Ap cp A' c' (us ++ [m]) par w6 := by
  refine ⟨h.pr.kept hg ?_, by rw [List.map_append]; exact ho, fun b hb hb2 => ?_⟩
  · cases hub : (Value.slice Ap n cp).ownBlock with
    | none => exact .inl rfl
    | some g => exact .inr fun e => h.ds g e.symm hub
  · rcases hn b (by rw [List.length_append] at hb; exact hb) with h1 | h1
    · exact h.ds b h1 hb2
    · have := (h.pr.lt b hb2).2; omega
end
end Go.Proofs.Ythknlonelbfpaaa
