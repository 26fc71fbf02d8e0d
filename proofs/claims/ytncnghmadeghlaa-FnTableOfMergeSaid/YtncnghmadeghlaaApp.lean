/- Laws for append of one element, and of a whole list, onto a row of the call's own; frames in which one block may turn. -/
import Derived.Test.YtncnghmadeghlaaMem
import Derived.Maps.AppendAt
import Derived.RegionTactic
namespace Go.Proofs.Ytncnghmadeghlaa
open Go.RowKit
set_option linter.unusedVariables false

theorem grow_step {w w1 w2 : World} {g : Nat} {row : Option Nat} (h : w.grownBy w1 (some g)) (h2 : w1.grownBy w2 row) (hr : ∀ k, row = some k → k = g ∨ w.heap.size ≤ k) : w.grownBy w2 (some g) :=
  ⟨h2.os.trans h.os, h2.tape.trans h.tape, h2.output.trans h.output, Nat.le_trans h.size h2.size, fun i hi hne => (h2.block i (Nat.lt_of_lt_of_le hi h.size) (fun e => by
    rcases hr i e.symm with rfl | hk
    · exact hne rfl
    · omega)).trans (h.block i hi hne)⟩
theorem below_step {B : Nat} {w w1 w2 : World} {row : Option Nat} (h : Below B w w1) (hB : B ≤ w1.heap.size) (h2 : w1.grownBy w2 row) (hr : ∀ k, row = some k → B ≤ k) : Below B w w2 := h.grown h2 hB hr
theorem grow_of_below {w w1 : World} (h : Below w.heap.size w w1) (row : Option Nat) : w.grownBy w1 row := ⟨h.os, h.tape, h.output, h.size, fun i hi _ => h.block i hi⟩
theorem grow_below {B : Nat} {w w1 : World} {g : Nat} (h : w.grownBy w1 (some g)) (hB : B ≤ w.heap.size) (hg : B ≤ g) : Below B w w1 := ⟨h.os, h.tape, h.output, h.size, fun k hk => h.block k (by omega) (by intro e; injection e with e; omega)⟩

theorem own_slice {w : World} {base : Nat} {e : TypeId} {size : Nat} {v : Value} {n : Nat} {xs : List Value} (h : w.ownsRow base e size v n xs) : ∃ A c, v = .slice A n c ∧ n ≤ c := by
  rcases h.2 with ⟨rfl, rfl⟩ | ⟨g, cap, cur, rfl, _, _, hnc, _⟩
  · exact ⟨_, _, rfl, Nat.le_refl _⟩
  · exact ⟨_, _, rfl, hnc⟩

theorem own_cap {w : World} {base : Nat} {e : TypeId} {size : Nat} {A : Option Addr} {n m c : Nat} {xs : List Value} (h : w.ownsRow base e size (.slice A m c) n xs) : n ≤ c ∧ c ≤ maxLen := by
  rcases h.2 with ⟨h1, rfl⟩ | ⟨g, cap, cur, h1, _, _, hnc, hcm, _⟩
  · injection h1 with _ _ h3
    subst h3
    exact ⟨Nat.le_refl _, Nat.zero_le _⟩
  · injection h1 with _ _ h3
    subst h3
    exact ⟨hnc, hcm⟩

section
variable {P : Program} {α : Type} {f : α → Value}

theorem app1 {ops : Array Oper} {rest : List Oper} {o : Oper} {a : Act} {Q : Exit → Act → World → Prop} (hgd : o.guard = none) (s y : Operand) (t : TypeId)
    (ho : o.op = .call { callee := .builtin .append, args := #[s, y], argTypes := #[t, t] })
    (w : World) (base : Nat) (E : TypeId) (z : Value) (bytes : Nat) (ht : P.underlying t = some (.slice E)) (hinfo : (P.info? E).map (fun i => (i.zero, i.size, i.bytes)) = some (some z, 1, bytes)) (hz1 : z.cells.size = 1)
    (A : Option Addr) (c : Nat) (xs : List α) (hs : a.eval s = .slice A xs.length c) (hown : w.ownsRow base E 1 (.slice A xs.length c) xs.length (xs.map f))
    (x : α) (hx : a.eval y = .slice (some ⟨w.heap.size, 0, none⟩) 1 1) (h1 : (f x).oneCell' = true) (hn : xs.length ≤ 1048576) (hby : bytes ≤ 1000) (hbase : base ≤ w.heap.size)
    (h : ∀ A' c' w', w'.ownsRow base E 1 (.slice A' (xs.length + 1) c') (xs.length + 1) ((xs ++ [x]).map f) → w.grownBy w' (Value.slice A xs.length c).ownBlock →
      (∀ b, (Value.slice A' (xs.length + 1) c').ownBlock = some b → (Value.slice A xs.length c).ownBlock = some b ∨ w.heap.size ≤ b) → wpList P ops Q rest (a.put o.dst (.slice A' (xs.length + 1) c')) w') :
    wpList P ops Q (o :: rest) a (w.alloc (.cells #[f x] E)) := by
  obtain ⟨i, hi, hz, hsz, hb⟩ := info_parts hinfo
  refine wpList_append_own_at _ hgd s y t ho base E i z 1 bytes ht hi hz hsz hb hz1 (by decide) _ _ _ hs (hown.alloc _) ⟨w.heap.size, 0, none⟩ 1 1 [f x] hx (by simp) (cell_one_new _ _ _) (by simpa using h1)
    (by unfold maxLen; omega) ?_ (by simp; omega) ?_
  · have : (xs.length + 1) * bytes ≤ 1048577 * 1000 := Nat.mul_le_mul (by omega) hby
    omega
  · intro v' w' h2 h3 _ h5
    obtain ⟨A', c', rfl, _⟩ := own_slice h2
    refine h A' c' w' (by simpa using h2) ?_ ?_
    · exact ⟨h3.os, h3.tape, h3.output, by have := h3.size; simp at this; omega, fun k hk hne => (h3.block k (by simp; omega) hne).trans (Below.heap_alloc _ _ _ hk)⟩
    · intro b hb
      rcases h5 with h5 | h5
      · rw [h5] at hb; exact .inl hb
      · rw [h5] at hb
        injection hb with hb
        simp at hb
        exact .inr (by omega)
end
end Go.Proofs.Ytncnghmadeghlaa
