/- Plain words: lists and tables that are numbered through; a row of a table of one's own that turns. -/
import Derived.Test.YtncnghmadeghlaaMkW
namespace Go.Proofs.Ytncnghmadeghlaa
open Go.RowKit
set_option linter.unusedVariables false
section
variable {α β : Type}
def numL (φ : Int → α) (k : Int) (n : Nat) : List α := mkL n fun i => φ (k + i)
def numE (t : List (List β)) (k : Int) : Int := k + ((t.map List.length).sum : Nat)
def numT (φ : Int → α) : List (List β) → Int → List (List α)
  | [], _ => []
  | r :: t, k => numL φ k r.length :: numT φ t (k + r.length)
theorem numL_len (φ : Int → α) (k : Int) (n : Nat) : (numL φ k n).length = n := mkL_len _ _
theorem numL_get (φ : Int → α) (k : Int) {n i : Nat} (h : i < n) : (numL φ k n)[i]? = some (φ (k + i)) := mkL_get _ h
theorem numT_len (φ : Int → α) : ∀ (t : List (List β)) (k : Int), (numT φ t k).length = t.length
  | [], _ => rfl
  | r :: t, k => by simp [numT, numT_len φ t]
theorem numE_cons (r : List β) (t : List (List β)) (k : Int) : numE (r :: t) k = numE t (k + r.length) := by simp [numE]; omega
theorem numT_get (φ : Int → α) : ∀ (t : List (List β)) (k : Int) (i : Nat) (r : List β), t[i]? = some r → (numT φ t k)[i]? = some (numL φ (numE (t.take i) k) r.length)
  | [], _, _, _, h => by simp at h
  | q :: t, k, 0, r, h => by
    simp at h; subst h
    simp [numT, numE]
  | q :: t, k, i + 1, r, h => by
    have := numT_get φ t (k + q.length) i r (by simpa using h)
    rw [List.take_succ_cons, numE_cons]
    simpa [numT] using this
theorem numE_step {t : List (List β)} {i : Nat} {r : List β} (h : t[i]? = some r) (k : Int) : numE (t.take (i + 1)) k = numE (t.take i) k + r.length := by
  rw [take_snoc' h]; simp [numE]; omega
theorem numE_ge (t : List (List β)) (k : Int) : k ≤ numE t k := by simp only [numE]; omega
theorem sum_lens {M : Nat} : ∀ (t : List (List β)), (∀ r ∈ t, r.length ≤ M) → (t.map List.length).sum ≤ t.length * M
  | [], _ => by simp
  | r :: t, h => by
    have h1 := sum_lens t fun q hq => h q (List.mem_cons_of_mem _ hq)
    have h2 := h r List.mem_cons_self
    simp only [List.map_cons, List.sum_cons, List.length_cons, Nat.add_mul]; omega
theorem numE_le {M : Nat} {t : List (List β)} (h : ∀ r ∈ t, r.length ≤ M) (i : Nat) (k : Int) : numE (t.take i) k ≤ k + ((t.length * M : Nat) : Int) := by
  have h1 := sum_lens (t.take i) fun r hr => h r (List.mem_of_mem_take hr)
  have h2 : (t.take i).length * M ≤ t.length * M := Nat.mul_le_mul (by simp; omega) (Nat.le_refl _)
  simp only [numE]; omega
/-- the first i rows are numbered, the others are as they were -/
def midT (φ : Int → α) (t : List (List α)) (k : Int) (i : Nat) : List (List α) := (numT φ t k).take i ++ t.drop i
theorem midT_len (φ : Int → α) (t : List (List α)) (k : Int) {i : Nat} (h : i ≤ t.length) : (midT φ t k i).length = t.length := by simp [midT, numT_len]; omega
theorem midT_zero (φ : Int → α) (t : List (List α)) (k : Int) : midT φ t k 0 = t := by simp [midT]
theorem midT_all (φ : Int → α) (t : List (List α)) (k : Int) : midT φ t k t.length = numT φ t k := by simp [midT, ← numT_len φ t k]
theorem midT_get (φ : Int → α) {t : List (List α)} {k : Int} {i : Nat} {r : List α} (h : t[i]? = some r) : (midT φ t k i)[i]? = some r := by
  have hi := (List.getElem?_eq_some_iff.1 h).1
  have hl : ((numT φ t k).take i).length = i := by simp [numT_len]; omega
  rw [midT, List.getElem?_append_right (by omega), hl, Nat.sub_self, List.getElem?_drop]
  simpa using h
theorem midT_step (φ : Int → α) {t : List (List α)} {k : Int} {i : Nat} {r : List α} (h : t[i]? = some r) : (midT φ t k i).set i (numL φ (numE (t.take i) k) r.length) = midT φ t k (i + 1) := by
  have hi := (List.getElem?_eq_some_iff.1 h).1
  have hl : ((numT φ t k).take i).length = i := by simp [numT_len]; omega
  rw [midT, midT, List.set_append, if_neg (by omega), hl, Nat.sub_self, drop_cons h, take_snoc' (numT_get φ t k i r h)]
  simp
end
section
variable {α : Type} {f : α → Value} {E : TypeId} {lo hi : Nat} {w w' : World} {g : Nat} {vs : Nat → Value} {t : List (List α)}
/-- a row turns: the others stay -/
theorem OwnT.turnrow (h : OwnT f E lo hi w g vs t) {j : Nat} {r r' : List α} (hr : t[j]? = some r) (hl : r'.length = r.length) (ho : w'.ownsRow lo E 1 (vs j) r'.length (r'.map f)) (hg : w.grownBy w' (vs j).ownBlock) : OwnT f E lo hi w' g vs (t.set j r') := by
  have hj := (List.getElem?_eq_some_iff.1 hr).1
  have hsz := hg.size
  have hin := h.hin
  have hkeep : ∀ b, b < hi → (vs j).ownBlock ≠ some b → w'.heap[b]? = w.heap[b]? := fun b hb hne => hg.block b (by omega) (fun e => hne e.symm)
  refine ⟨h.gin, by omega, fun k hk => ?_, fun k q hq => ?_, fun k b hk hb => h.top k b (by simpa using hk) hb, fun a k b ha hk hne hb => h.far a k b (by simpa using ha) (by simpa using hk) hne hb⟩
  · have hk' : k < t.length := by simpa using hk
    rw [World.cell?_of_block (w := w) (a := ⟨g, k, none⟩) (hkeep g h.gin.2 (fun e => (h.top j g hj e).2 rfl))]
    exact h.outer k hk'
  · rw [List.getElem?_set] at hq
    by_cases hkj : j = k
    · subst hkj
      rw [if_pos rfl, if_pos hj] at hq
      injection hq with hq
      subst hq
      exact ho
    · rw [if_neg hkj] at hq
      have hk' := (List.getElem?_eq_some_iff.1 hq).1
      refine own_keep (h.row k q hq) fun b hb => hkeep b (h.top k b hk' hb).1 fun e => h.far j k b hj hk' hkj e hb
theorem Turns.grown {lo hi : Nat} {w w' : World} {row : Option Nat} (h : w.grownBy w' row) (h1 : ∀ b, row = some b → lo ≤ b ∧ b < hi) : Turns lo hi w w' :=
  ⟨h.os, h.tape, h.output, h.size, fun i hi' ho => h.block i hi' (fun e => by have := h1 i e.symm; omega)⟩
end
end Go.Proofs.Ytncnghmadeghlaa
