/- The bounds of a drawn cell: off the domain both answer -1; else there are a table, a mask and a cell. -/
import Derived.Test.YthknlonelbfpaaaBoundI
import Derived.Test.YthknlonelbfpaaaDBound
namespace Go.Proofs.Ythknlonelbfpaaa
open Go.RowKit
set_option linter.unusedVariables false
theorem bound_cases (A1 A2 : Option Addr) (c1 c2 : Nat) (t : List (List Int)) (m : List (List Bool)) (i j : Int) (w : World) (hT : Tab IntV w A1 t) (hM : Tab BoolV w A2 m) (hl : t.length ≤ maxLen) (hm : m.length ≤ maxLen) :
    (Hid (∀ w', Below w.heap.size w w' → Calls Try.prog 11 #[.slice A1 t.length c1, .slice A2 m.length c2, .int .i64 i, .int .i64 j] w' fun e w'' => e = .returned (.int .i64 (-1)) ∧ Below w'.heap.size w' w'') ∧
     Hid (∀ w', Below w.heap.size w w' → Calls Try.prog 12 #[.slice A1 t.length c1, .slice A2 m.length c2, .int .i64 i, .int .i64 j] w' fun e w'' => e = .returned (.int .i64 (-1)) ∧ Below w'.heap.size w' w'')) ∨
    ∃ h wd G M a b, t = mkT h wd G ∧ Good h wd G ∧ m = mkT h wd M ∧ (a : Nat) < h ∧ (b : Nat) < wd ∧ i = (a : Int) ∧ j = (b : Int) := by
  rcases mask_cases t m with hv | ⟨h, wd, G, M, rfl, gd, rfl⟩
  · exact .inl ⟨Lib.hid fun w' hb => implHigh_off A1 A2 c1 c2 _ _ i j w' (hasCell_no A1 A2 c1 c2 t m i j w' (hT.below hb) (hM.below hb) hl hm hv), Lib.hid fun w' hb => specHigh_off A1 A2 c1 c2 _ _ i j w' (l13Ok_no A1 A2 c1 c2 t m i j w' (hT.below hb) (hM.below hb) hl hm hv)⟩
  · by_cases hin : (0 ≤ i ∧ i < (h : Int)) ∧ (0 ≤ j ∧ j < (wd : Int))
    · obtain ⟨a, rfl⟩ := Int.eq_ofNat_of_zero_le hin.1.1
      obtain ⟨b, rfl⟩ := Int.eq_ofNat_of_zero_le hin.2.1
      exact .inr ⟨h, wd, G, M, a, b, rfl, gd, rfl, by omega, by omega, rfl, rfl⟩
    · have hz : (inB i 0 ((h : Int) - 1) && inB j 0 ((wd : Int) - 1)) = false := by
        by_cases hi : 0 ≤ i ∧ i < (h : Int)
        · rw [inB_no (n := j) (by omega), Bool.and_false]
        · rw [inB_no (n := i) (by omega), Bool.false_and]
      left
      refine ⟨Lib.hid fun w' hb => ?_, Lib.hid fun w' hb => ?_⟩
      · have := hasCell_yes A1 A2 c1 c2 h wd G M i j w' (hT.below hb) (hM.below hb) gd
        rw [hz] at this
        rw [mkT_len, mkT_len]
        exact implHigh_off A1 A2 c1 c2 _ _ i j w' this
      · have := l13Ok_yes A1 A2 c1 c2 h wd G M i j w' (hT.below hb) (hM.below hb) gd
        rw [hz] at this
        rw [mkT_len, mkT_len]
        exact specHigh_off A1 A2 c1 c2 _ _ i j w' this
end Go.Proofs.Ythknlonelbfpaaa
