/- slices.Delete of one row of an outer row of one's own. -/
import Derived.Test.YtncnghmadeghlaaLayDel
import Derived.Test.YtncnghmadeghlaaRowsV
import Derived.Test.YtncnghmadeghlaaInfo
namespace Go.Proofs.Ytncnghmadeghlaa
open Go.RowKit Go.Sort
set_option linter.unusedVariables false
instance : Inhabited RowW := ⟨⟨none, 0, 0⟩⟩
theorem delete_row (g h b lo : Nat) (us : List RowW) (w : World) (ho : w.ownsRow lo 42 1 (.slice (some ⟨g, 0, none⟩) h h) h (us.map RowV)) (hb : b < h) (h4 : h ≤ 1000) :
    Calls Try.prog 58 #[.slice (some ⟨g, 0, none⟩) h h, .int .i64 b, .int .i64 ((b : Int) + 1)] w fun e w' =>
      e = .returned (.slice (some ⟨g, 0, none⟩) (h - 1) h) ∧ (∀ j u, (us.eraseIdx b)[j]? = some u → w'.cell? ⟨g, j, none⟩ = some (RowV u)) ∧ w.grownBy w' (some g) := by
  have hlen : us.length = h := by have := ho.1; simpa using this
  have hH : Holds RowV w g 0 us.toArray := by
    intro j hj
    have hj' : j < us.length := by simpa using hj
    refine ⟨?_, by rw [Nat.zero_add]; exact ho.frozenAt j⟩
    rw [Nat.zero_add, ho.cellAt j (by omega)]
    simp [hj']
  obtain ⟨i0, hi, hz0, hz1, hz2⟩ := info_parts nfoIS
  have hD := AnyE.slices_Delete delL RowV (fun _ => rfl) ⟨none, 0, 0⟩ (by exact Try.zeroValue42) i0 hi hz1 g 0 h b (b + 1) us.toArray w hH (by simp; omega) (by omega) (by omega) (by simp; omega)
  change Calls Try.prog 58 _ _ _ at hD
  have e1 : us.toArray.size = h := by simpa using hlen
  rw [e1, show h - (b + 1 - b) = h - 1 by omega, show b + 1 - b = 1 by omega] at hD
  have e2 : ((b + 1 : Nat) : Int) = (b : Int) + 1 := by omega
  rw [e2] at hD
  refine hD.mono ?_
  rintro e w' ⟨rfl, q, hw⟩
  have hsz : (us.take b ++ us.drop (b + 1) ++ List.replicate 1 (⟨none, 0, 0⟩ : RowW)).length = us.length := by simp; omega
  refine ⟨rfl, fun j u hu => ?_, ?_⟩
  · have hj : j < h - 1 := by
      have := (List.getElem?_eq_some_iff.1 hu).1
      rw [List.length_eraseIdx] at this
      split at this <;> omega
    have hc := cell?_putRow RowV (Go.Sort.ahead w q) g 0 us.toArray (us.take b ++ us.drop (b + 1) ++ List.replicate 1 (⟨none, 0, 0⟩ : RowW)).toArray (holds_ahead _ _ _ _ _ _ hH) (by simpa using hsz) j (by rw [List.size_toArray, hsz]; omega)
    rw [hw]
    rw [Nat.zero_add] at hc
    refine hc.trans ?_
    rw [List.eraseIdx_eq_take_drop_succ] at hu
    have : (us.take b ++ us.drop (b + 1) ++ List.replicate 1 (⟨none, 0, 0⟩ : RowW))[j]? = some u := by
      rw [List.getElem?_append_left (by simp; omega)]
      exact hu
    have e : (us.take b ++ us.drop (b + 1) ++ List.replicate 1 (⟨none, 0, 0⟩ : RowW)).toArray[j]! = u := by
      rw [getElem!_def, List.getElem?_toArray, this]
    rw [e]
  · rw [hw]
    refine ⟨rfl, rfl, rfl, by simp [putRow, mapBlock, Go.Sort.ahead], fun k hk hne => ?_⟩
    have hne' : ¬ g = k := fun e => hne (by rw [e])
    simp [putRow, mapBlock, Go.Sort.ahead, Array.getElem?_modify, hne']
end Go.Proofs.Ytncnghmadeghlaa
