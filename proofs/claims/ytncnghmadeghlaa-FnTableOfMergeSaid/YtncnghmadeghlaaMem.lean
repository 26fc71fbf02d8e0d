/- Memory words: a slice that reads as a list of plain elements, kept over worlds that leave old blocks alone. No condition. -/
import Derived.Below
import Derived.Laws.OwnMore
import Derived.Deep.AppendLies
import Derived.Deep.Draws
import Derived.WalkKit
import Derived.Lib.Hide
import Derived.Deep.OwnRows
import Derived.OwnWalk
namespace Go.Proofs.Ytncnghmadeghlaa
open Go.RowKit

/-- The slice address A leads to the elements xs, each in one cell spelt by f; the block lies in the world. -/
def Seq {α : Type} (f : α → Value) (w : World) (A : Option Addr) (xs : List α) : Prop :=
  0 < xs.length → ∃ b o, A = some ⟨b, o, none⟩ ∧ b < w.heap.size ∧ ∀ j x, xs[j]? = some x → w.cell? ⟨b, o + j, none⟩ = some (f x)

/-- the length in a slot -/
def lenOf : Value → Nat
  | .slice _ n _ => n
  | _ => 0

abbrev IntV (x : Int) : Value := .int .i64 x
abbrev ByteV (x : Int) : Value := .int .u8 x
abbrev BoolV (x : Bool) : Value := .bool x

section
variable {α : Type} {f : α → Value} {w w' : World} {A : Option Addr} {xs : List α}

theorem Seq.nil_ : Seq f w A ([] : List α) := fun h => absurd h (by simp)

theorem Seq.at_ {k : Nat} (h : Seq f w A xs) (hk : k < xs.length) :
    ∃ b o x, A = some ⟨b, o, none⟩ ∧ b < w.heap.size ∧ xs[k]? = some x ∧ w.cell? ⟨b, o + k, none⟩ = some (f x) := by
  obtain ⟨b, o, e, hb, hc⟩ := h (by omega)
  exact ⟨b, o, xs[k], e, hb, List.getElem?_eq_getElem hk, hc k _ (List.getElem?_eq_getElem hk)⟩

theorem Seq.keep (h : Seq f w A xs) (hs : w.heap.size ≤ w'.heap.size) (hk : ∀ p : Addr, p.block < w.heap.size → w'.cell? p = w.cell? p) : Seq f w' A xs := fun hn => by
  obtain ⟨b, o, e, hb, hc⟩ := h hn
  exact ⟨b, o, e, by omega, fun j x hx => (hk _ hb).trans (hc j x hx)⟩

theorem Seq.below (h : Seq f w A xs) (hb : Below w.heap.size w w') : Seq f w' A xs := h.keep hb.size fun _ hp => hb.cell hp

theorem Seq.far (h : Seq f w A xs) (g : Nat) (hs : w.heap.size ≤ w'.heap.size) (hA : ∀ a, A = some a → a.block ≠ g) (hk : ∀ p : Addr, p.block < w.heap.size → p.block ≠ g → w'.cell? p = w.cell? p) : Seq f w' A xs := fun hn => by
  obtain ⟨b, o, e, hb, hc⟩ := h hn
  exact ⟨b, o, e, by omega, fun j x hx => (hk ⟨b, o + j, none⟩ hb (hA ⟨b, o, none⟩ e)).trans (hc j x hx)⟩

theorem Seq.drewN (h : Seq f w A xs) (n : Nat) : Seq f (w.drewN n) A xs := h
theorem Seq.drew (h : Seq f w A xs) : Seq f w.drew A xs := h
theorem Seq.alloc (h : Seq f w A xs) (o : Obj) : Seq f (w.alloc o) A xs :=
  h.keep (by simp) fun p hp => World.cell?_alloc_lt w o p hp

/-- A prefix of the slice reads as the prefix of the list. -/
theorem Seq.take (h : Seq f w A xs) (k : Nat) : Seq f w A (xs.take k) := fun hn => by
  have hl : 0 < xs.length := by simp at hn; omega
  obtain ⟨b, o, e, hb, hc⟩ := h hl
  refine ⟨b, o, e, hb, fun j x hx => hc j x ?_⟩
  rw [List.getElem?_take] at hx
  split at hx
  · exact hx
  · cases hx

/-- A suffix: the address moves on, unless the capacity ends there. -/
theorem Seq.drop (h : Seq f w A xs) {k cap : Nat} (hc : xs.length ≤ cap) :
    Seq f w (if cap = k then A else A.map (·.add k)) (xs.drop k) := fun hn => by
  have hl : k < xs.length := by simp at hn; omega
  obtain ⟨b, o, rfl, hb, hcell⟩ := h (by omega)
  rw [if_neg (by omega)]
  by_cases hk : k = 0
  · subst hk
    exact ⟨b, o, by simp [Addr.add], hb, fun j x hx => hcell j x (by simpa using hx)⟩
  · refine ⟨b, o + k, by simp [Addr.add, hk], hb, fun j x hx => ?_⟩
    rw [Nat.add_assoc]
    exact hcell (k + j) x (by simpa [List.getElem?_drop] using hx)

/-- An owned row of the call's own reads as a list. -/
theorem Seq.of_own {base : Nat} {e : TypeId} {n c : Nat} (h : w.ownsRow base e 1 (.slice A n c) n (xs.map f)) : Seq f w A xs := fun hn => by
  have hl : xs.length = n := by have := h.1; simpa using this
  obtain ⟨g, cap, hv, _, hlt⟩ := h.form (by omega)
  have hA : A = some ⟨g, 0, none⟩ := by injection hv
  subst hA
  refine ⟨g, 0, rfl, hlt, fun j x hx => ?_⟩
  have := h.cells (g := g) rfl j (f x) (by simp [hx])
  rw [← this]
  congr 1
  unfold Addr.add
  split
  · next h0 => subst h0; rfl
  · rfl
end

theorem bcell {W w1 : World} (hb : Below W.heap.size W w1) : (∀ b o, b < W.heap.size → w1.cell? ⟨b, o, none⟩ = W.cell? ⟨b, o, none⟩) ∧ (∀ b o, b < W.heap.size → w1.frozen? ⟨b, o, none⟩ = W.frozen? ⟨b, o, none⟩) :=
  ⟨fun b o h => hb.cell (p := ⟨b, o, none⟩) h, fun b o h => hb.frozen (p := ⟨b, o, none⟩) h⟩

theorem ret_int {k : IntKind} {a b : Int} (h : a = b) : Ending.returned (.int k a) = .returned (.int k b) := by rw [h]
theorem ret_bool {a b : Bool} (h : a = b) : Ending.returned (.bool a) = .returned (.bool b) := by rw [h]

theorem drop_cons {α : Type} {xs : List α} {k : Nat} {x : α} (h : xs[k]? = some x) : xs.drop k = x :: xs.drop (k + 1) := by
  obtain ⟨hk, e⟩ := List.getElem?_eq_some_iff.1 h
  rw [← e]; exact List.drop_eq_getElem_cons hk

theorem take_snoc' {α : Type} {xs : List α} {k : Nat} {x : α} (h : xs[k]? = some x) : xs.take (k + 1) = xs.take k ++ [x] := by
  obtain ⟨hk, e⟩ := List.getElem?_eq_some_iff.1 h
  rw [← e]; exact List.take_succ_eq_append_getElem hk

/-- what a call leaves that makes a list of plain elements: a row of the call's own, old blocks as they were -/
def Made {α : Type} (f : α → Value) (E : TypeId) (w : World) (xs : List α) (e : Ending) (w' : World) : Prop :=
  ∃ A c, e = .returned (.slice A xs.length c) ∧ w'.ownsRow w.heap.size E 1 (.slice A xs.length c) xs.length (xs.map f) ∧ Below w.heap.size w w'

/-- only draws have been made -/
def Qu (w w' : World) : Prop := ∃ n, w' = w.drewN n
theorem Qu.refl (w : World) : Qu w w := ⟨0, rfl⟩
theorem Qu.drewN {w w1 : World} (h : Qu w w1) (n : Nat) : Qu w (w1.drewN n) := by
  obtain ⟨m, rfl⟩ := h
  exact ⟨m + n, World.drewN_drewN _ _ _⟩
theorem Qu.of (w : World) (n : Nat) : Qu w (w.drewN n) := ⟨n, rfl⟩
theorem Qu.trans {w w1 w2 : World} (h : Qu w w1) (h' : Qu w1 w2) : Qu w w2 := by
  obtain ⟨n, rfl⟩ := h'
  exact h.drewN n
theorem below_drewN {B : Nat} {a w : World} (h : Below B a w) (n : Nat) : Below B a (w.drewN n) := ⟨h.os, h.tape, h.output, h.size, h.block⟩
theorem Qu.below {w w1 : World} (h : Qu w w1) : Below w.heap.size w w1 := by
  obtain ⟨n, rfl⟩ := h
  exact below_drewN (Below.refl _ _) n
theorem Qu.size {w w1 : World} (h : Qu w w1) : w1.heap.size = w.heap.size := by
  obtain ⟨n, rfl⟩ := h
  rfl
theorem Seq.qu {α : Type} {f : α → Value} {w w1 : World} {A : Option Addr} {xs : List α} (h : Seq f w A xs) (hq : Qu w w1) : Seq f w1 A xs := h.below hq.below

/-- a new row of zeros is owned -/
theorem own_made (w : World) (z : Value) (n : Nat) (t : TypeId) (hn : n ≤ maxLen) :
    (w.alloc (.cells (madeCells #[z] n) t)).ownsRow w.heap.size t 1 (.slice (some ⟨w.heap.size, 0, none⟩) n n) n (List.replicate n z) := by
  refine ⟨by simp, .inr ⟨w.heap.size, n, madeCells #[z] n, rfl, Nat.le_refl _, Deep.blk_alloc_new _ _, Nat.le_refl _, hn, by simp [size_madeCells], ?_⟩⟩
  rw [List.take_of_length_le (by simp [size_madeCells])]
  apply List.ext_getElem?
  intro i
  by_cases hi : i < n
  · simp [madeCells, hi, Nat.mod_one]
  · simp [madeCells, hi]

theorem own_lt {w : World} {base : Nat} {e : TypeId} {size n c g : Nat} {xs : List Value} (h : w.ownsRow base e size (.slice (some ⟨g, 0, none⟩) n c) n xs) : base ≤ g ∧ g < w.heap.size := h.lt g rfl

/-- the step of a loop that fills a row of zeros -/
theorem fill_step {α : Type} {f : α → Value} {xs : List α} {z : Value} {k : Nat} {x : α} (h : xs[k]? = some x) :
    ((xs.take k).map f ++ List.replicate (xs.length - k) z).set k (f x) = (xs.take (k + 1)).map f ++ List.replicate (xs.length - (k + 1)) z := by
  obtain ⟨hk, e⟩ := List.getElem?_eq_some_iff.1 h
  rw [take_snoc' h]
  have hl : ((xs.take k).map f).length = k := by simp; omega
  rw [List.set_append, if_neg (by omega), hl, Nat.sub_self]
  obtain ⟨m, hm⟩ : ∃ m, xs.length - k = m + 1 := ⟨xs.length - k - 1, by omega⟩
  rw [hm, show xs.length - (k + 1) = m by omega, List.replicate_succ]
  simp

/-- a slice of integers that came in, as open_ints hands it over -/
theorem seq_of_ints {k : IntKind} {w : World} {x : Addr} {len cap : Nat} {zs : List Int} (hl : len ≤ cap) (hz : zs.length = cap)
    (hcell : ∀ i, i < zs.length → w.cell? (x.add i) = some (.int k (zs.getD i 0))) : Seq (Value.int k) w (some x) (zs.take len) := fun hn => by
  have hlen : 0 < zs.length := by simp at hn; omega
  obtain ⟨b, off, spot⟩ := x
  have h0 := hcell 0 hlen
  have hspot : spot = none := by simpa [Addr.add] using World.cell?_spot h0
  subst hspot
  have hb : b < w.heap.size := by
    rcases Nat.lt_or_ge b w.heap.size with h | h
    · exact h
    · exfalso
      simp [Addr.add, World.cell?, Array.getElem?_eq_none h] at h0
  refine ⟨b, off, rfl, hb, fun j y hy => ?_⟩
  rw [List.getElem?_take] at hy
  split at hy
  · obtain ⟨hj, e⟩ := List.getElem?_eq_some_iff.1 hy
    have := hcell j hj
    have e2 : (⟨b, off, none⟩ : Addr).add j = ⟨b, off + j, none⟩ := by
      unfold Addr.add
      split
      · next h0 => subst h0; rfl
      · rfl
    rw [e2] at this
    rw [this]
    simp [List.getD_eq_getElem?_getD, hy]
  · cases hy

/-- what a law's walk comes to: true, and nothing that was there has turned -/
def Yes (w : World) (e : Ending) (w' : World) : Prop := e = .returned (.bool true) ∧ Below w.heap.size w w'

end Go.Proofs.Ytncnghmadeghlaa
