/- slices.SortFunc at contributions and the comparison of topSum: what was a row of the call's own is in descending order behind it. -/
import Derived.Test.YtloehocldbfbbaaTop
import Derived.Test.YtloehocldbfbbaaFewW
import Derived.Test.YtloehocldbfbbaaLst
import Derived.Test.YtloehocldbfbbaaLaySort
import Derived.Shelf.SlSortCmp.NoneTotal
import Derived.Lib.RowBridge
import Derived.Lib.SortBridge
import Derived.Lib.SlBuf
namespace Go.Proofs.Ytloehocldbfbbaa
open Go.Shelf Go.RowKit Go.Lib Go.Sort
set_option linter.unusedVariables false

abbrev Part : Type := { x : Int // 0 ≤ x ∧ x ≤ 100000 }
instance : Inhabited Part := ⟨⟨0, by omega⟩⟩
def encP (x : Part) : Value := .int .i64 x.1
def cfP (x y : Part) : Int := y.1 - x.1
theorem ltP (x y : Part) : ltOf cfP x y = decide (y.1 < x.1) := by
  unfold ltOf cfP
  congr 1
  apply propext
  omega
theorem swoP : SWO (ltOf cfP) where
  irrefl x := by rw [ltP]; simp
  trans x y z h1 h2 := by rw [ltP] at *; simp at *; omega
  ntrans x y z h1 h2 := by rw [ltP] at *; simp at *; omega
theorem totP (x y : Part) (h1 : ltOf cfP x y = false) (h2 : ltOf cfP y x = false) : x = y := by
  rw [ltP] at *
  simp at *
  exact Subtype.ext (by omega)

set_option maxHeartbeats 400000 in
theorem closureP (x y : Part) (W : World) : Calls Try.prog 38 #[encP x, encP y] W fun e w' => e = .returned (.int .i64 (cfP x y)) ∧ ∃ q, w' = W.drewN q := by
  obtain ⟨x, hx0, hx1⟩ := x
  obtain ⟨y, hy0, hy1⟩ := y
  unfold encP cfP
  go_enter Try.func38, Try.ntmps38
  go_wp2
  go_ret
  exact ⟨rfl, 0, rfl⟩
theorem cmpP (blk off size : Nat) (w : World) : CmpReads Try.prog 38 #[] encP cfP blk off size w := fun _ _ _ _ x y => closureP x y _

theorem parts_of {xs : List Int} (h : ∀ x ∈ xs, 0 ≤ x ∧ x ≤ 100000) : ∃ d : List Part, d.map (·.1) = xs := by
  induction xs with
  | nil => exact ⟨[], rfl⟩
  | cons x r ih =>
    obtain ⟨d, hd⟩ := ih fun y hy => h y (by simp [hy])
    exact ⟨⟨x, h x (by simp)⟩ :: d, by simp [hd]⟩
theorem sorted_parts (d : List Part) : (d.mergeSort fun x y => !ltOf cfP y x).map (·.1) = srt (d.map (·.1)) := by
  apply srt_of ((List.mergeSort_perm d _).map _)
  refine List.Pairwise.map _ (R := fun x y : Part => (!ltOf cfP y x) = true) ?_ ?_
  · intro a b h
    rw [ltP] at h
    simp at h
    exact h
  · refine List.pairwise_mergeSort ?_ ?_ d
    · intro a b c h1 h2
      rw [ltP] at *
      simp at *
      omega
    · intro a b
      rw [ltP, ltP]
      simp
      omega

theorem sorted_below {w : World} {base g q : Nat} {vs : List Value} {os : Array Obj} (hg : base ≤ g) (hb : base ≤ w.heap.size) : Below base w (grow ((w.drewN q).setCells g 0 vs) os) := by
  have h1 : Below base w ((w.drewN q).setCells g 0 vs) := Go.Lib.below_setCells g hg vs 0 (below_drewN (Below.refl _ _) q)
  refine ⟨h1.os, h1.tape, h1.output, Nat.le_trans h1.size (by simp [grow]), fun k hk => ?_⟩
  rw [← h1.block k hk]
  have hlt : k < ((w.drewN q).setCells g 0 vs).heap.size := by have := h1.size; omega
  exact heap_grow_old _ os hlt

set_option maxHeartbeats 400000 in
theorem sort_any (base g c : Nat) (xs : List Int) (w : World) (hn : 0 < xs.length) (hl : xs.length ≤ 20) (hr : ∀ x ∈ xs, 0 ≤ x ∧ x ≤ 100000) (hb : base ≤ w.heap.size)
    (ho : w.ownsRow base 3 1 (.slice (some ⟨g, 0, none⟩) xs.length c) xs.length (xs.map IntV)) :
    Calls Try.prog 37 #[.slice (some ⟨g, 0, none⟩) xs.length c, .func (.func 38) #[] #[]] w fun e w' =>
      e = .returned (.tuple #[]) ∧ Lst IntV w' (some ⟨g, 0, none⟩) c (srt xs) ∧ Below base w w' := by
  obtain ⟨d, rfl⟩ := parts_of hr
  have hlen : (d.map (·.1)).length = d.length := by simp
  have hg := ho.lt g rfl
  have hcap := own_cap ho
  have hcell : ∀ j, j < (d.map (·.1)).length → w.cell? ⟨g, 0 + j, none⟩ = some (.int .i64 ((d.map (·.1)).getD j 0)) := by
    intro j hj
    rw [Nat.zero_add, ho.cellAt j (by omega)]
    rw [List.getElem?_map, List.getD_eq_getElem?_getD, List.getElem?_eq_getElem hj]
    rfl
  have hH : Holds encP w g 0 d.toArray := by
    intro j hj
    have hj' : j < d.length := by simpa using hj
    refine ⟨?_, by rw [Nat.zero_add]; exact ho.frozenAt j⟩
    rw [hcell j (by omega), List.getD_eq_getElem?_getD]
    simp [encP, hj']
  have eg : ∀ args w, (callFunc 38 args).run Try.prog w = .ok (.enter 38 args) w := enters_of Try.func38 (by kernel_rfl) rfl
  have hS := Any.slices_SortFunc_total sortL encP (fun _ => rfl) cfP swoP 38 #[] g 0 c d.toArray w eg (cmpP g 0 d.toArray.size w).lays hH hg.2 (by simp; omega) totP
  change Calls Try.prog 37 _ _ _ at hS
  rw [show d.toArray.size = (d.map (·.1)).length by simp] at hS
  refine hS.mono ?_
  rintro e w' ⟨rfl, n, os, hw⟩
  refine ⟨rfl, ?_⟩
  have hsw := Lib.sorted_world encP w g 0 n d.toArray (d.mergeSort fun x y => !ltOf cfP y x) os hH (by simp)
  have hw2 : w' = grow ((w.drewN n).setCells g 0 ((srt (d.map (·.1))).map (Value.int .i64))) os := by
    rw [hw]
    refine Eq.trans hsw ?_
    rw [← sorted_parts, List.map_map]
    rfl
  have hcs := cells_sorted_ints (W := w) (b := g) (off := 0) (n := (d.map (·.1)).length) (q := n) (zs := d.map (·.1)) (ys := srt (d.map (·.1))) (os := os) (Nat.le_refl _) (srt_len _) hcell
  rw [← hw2, List.drop_eq_nil_of_le (Nat.le_refl _), List.append_nil] at hcs
  have hbel : Below base w w' := by rw [hw2]; exact sorted_below hg.1 hb
  refine ⟨⟨fun hn => ⟨g, 0, rfl, by have := hbel.size; omega, fun j x hx => ?_⟩, by rw [srt_len]; exact hcap.1, hcap.2, fun h => by cases h⟩, hbel⟩
  obtain ⟨hj, e⟩ := List.getElem?_eq_some_iff.1 hx
  rw [hcs j hj, List.getD_eq_getElem?_getD, hx]
  rfl
end Go.Proofs.Ytloehocldbfbbaa
