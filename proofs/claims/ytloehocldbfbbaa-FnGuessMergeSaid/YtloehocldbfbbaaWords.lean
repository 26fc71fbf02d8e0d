/- Words that the laws on drawn contributions share. -/
import Derived.Test.YtloehocldbfbbaaTopW
import Derived.Test.YtloehocldbfbbaaDrawParts
import Derived.OpenShut
namespace Go.Proofs.Ytloehocldbfbbaa
open Go.RowKit
theorem drawn_wf {xs : List Int} (h : Drawn xs) : ∀ n ∈ xs, (Lit.int .i64 n).wf = true := fun n hn => WalkArith.wf_i64 (by have := h.2 n hn; omega)
theorem wf_snoc {xs : List Int} {x : Int} (h : ∀ n ∈ xs, (Lit.int .i64 n).wf = true) (hx : (Lit.int .i64 x).wf = true) : ∀ n ∈ xs ++ [x], (Lit.int .i64 n).wf = true := fun n hn => by
  rcases List.mem_append.1 hn with hn | hn
  · exact h n hn
  · rw [List.mem_singleton] at hn; subst hn; exact hx
theorem wf_app {xs ys : List Int} (h : ∀ n ∈ xs, (Lit.int .i64 n).wf = true) (hy : ∀ n ∈ ys, (Lit.int .i64 n).wf = true) : ∀ n ∈ xs ++ ys, (Lit.int .i64 n).wf = true := fun n hn => by
  rcases List.mem_append.1 hn with hn | hn
  · exact h n hn
  · exact hy n hn
theorem partsTop_ge {xs : List Int} {n : Int} (h : ¬ partsTop xs n < 0) : partsValid xs = true ∧ 0 ≤ n := by
  apply Classical.byContradiction
  intro hc
  rw [partsTop_no hc] at h
  omega
theorem partsTop_range (xs : List Int) (n : Int) : -1 ≤ partsTop xs n ∧ partsTop xs n ≤ 2000000 := by
  unfold partsTop
  split
  · next h =>
    have hv := valid_iff.1 h.1
    have := top_bound hv.1 hv.2 n.toNat
    omega
  · omega
theorem valid_nonneg {xs : List Int} (h : partsValid xs = true) : ∀ x ∈ xs, 0 ≤ x := fun x hx => (valid_mem h x hx).1
theorem top20 {xs : List Int} (h : partsValid xs = true) : partsTop xs 20 = tot xs := by
  rw [partsTop_yes h (by omega)]
  exact top_all (valid_len h)
theorem valid_perm {xs ys : List Int} (h : ys.Perm xs) : partsValid ys = partsValid xs := by
  rw [Bool.eq_iff_iff, valid_iff, valid_iff, h.length_eq]
  simp only [h.mem_iff]
theorem rot_perm (xs : List Int) (k : Nat) : (xs.drop k ++ xs.take k).Perm xs := by
  have : (xs.take k ++ xs.drop k).Perm xs := by rw [List.take_append_drop]
  exact List.perm_append_comm.trans this
end Go.Proofs.Ytloehocldbfbbaa
