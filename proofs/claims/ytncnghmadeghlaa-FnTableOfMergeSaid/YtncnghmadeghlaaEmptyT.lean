/- The contract of emptyTable: a table of zeros in new memory. -/
import Derived.Test.YtncnghmadeghlaaInfo
namespace Go.Proofs.Ytncnghmadeghlaa
open Go.RowKit
set_option linter.unusedVariables false
set_option maxHeartbeats 400000 in
theorem emptyTable_any (h wd : Nat) (w : World) (hh : h ≤ 1000) (hw : wd ≤ 1000) :
    Calls Try.prog 48 #[.int .i64 h, .int .i64 wd] w (MadeT IntV 3 w (mkT h wd fun _ _ => 0)) := by
  have hmk := run_make_row' (P := Try.prog) 24 42 (.slice none 0 0) 24 Try.underlying24 nfoIS rfl .i64 .i64 h (by omega) (by omega)
  have hmk2 := run_make_row' (P := Try.prog) 42 3 (.int .i64 0) 8 Try.underlying42 nfoI rfl .i64 .i64 wd (by omega) (by omega)
  have hst := Half.start (f := IntV) (T := 42) (E := 3) w h (mkT h wd fun _ _ => 0) (by unfold maxLen; omega)
  have HST := Lib.hid hst
  clear hst
  go_enter Try.func48, Try.ntmps48
  go_wp2_with fail
  go_loopw [11] (fun i wr => ∃ (k : Nat) (vs : Nat → Value), k ≤ h ∧ i = .int .i64 k ∧ Hid (Half IntV 42 3 w wr h k vs (mkT h wd fun _ _ => 0))) (fun i _ => h - (intOf i).toNat)
  case atStart => exact ⟨0, _, Nat.zero_le _, rfl, HST⟩
  case round =>
    obtain ⟨k, vs, hk, rfl, HH⟩ := hrel
    obtain ⟨wo, rfl⟩ : ∃ wo : World, wo = wr := ⟨_, rfl⟩
    by_cases hlt : k < h
    · have ho := own_made wo (.int .i64 0) wd 3 (by unfold maxLen; omega)
      have hb1 : Below wo.heap.size wo (wo.alloc (.cells (madeCells #[.int .i64 0] wd) 3)) := (Below.refl _ _).alloc (Nat.le_refl _) _
      have e : List.replicate wd (Value.int .i64 0) = (mkL wd fun _ => (0 : Int)).map IntV := by rw [mkL_map, mkL_rep]
      obtain ⟨w1, hw1⟩ : ∃ w1 : World, w1 = wo.alloc (.cells (madeCells #[.int .i64 0] wd) 3) := ⟨_, rfl⟩
      have hm1 := hmk2 wo
      rw [← hw1] at hb1 hm1 ho
      have ho' : w1.ownsRow wo.heap.size 3 1 (.slice (some ⟨wo.heap.size, 0, none⟩) wd wd) (mkL wd fun _ => (0 : Int)).length ((mkL wd fun _ => (0 : Int)).map IntV) := by rw [mkL_len, ← e]; exact ho
      have hs := HH.out.step hlt (mkT_get _ hlt) ho' hb1
      have HS := Lib.hid hs
      have hout := own_below HH.out.outer hb1
      obtain ⟨y, hy⟩ : ∃ y, w1.cell? ⟨w.heap.size, k, none⟩ = some y := by
        rw [hout.cellAt k (by omega)]
        exact ⟨_, List.getElem?_eq_getElem (by simp; omega)⟩
      have hf := hout.frozenAt k
      have hz := HH.out.lt
      clear hs hout ho ho' e hb1 hw1 hmk2
      go_wp2_with fail
      go_roundw
      case rel => exact ⟨k + 1, _, by omega, by go_num, HS⟩
      case measure => simp [intOf]; omega
    · obtain rfl : k = h := by omega
      go_wp2_with fail
      go_ret
      have hd := HH.out
      have e : (mkT k wd fun _ _ => (0 : Int)).length = k := mkT_len _ _ _
      refine ⟨_, _, vs, by rw [e]; rfl, by rw [e]; exact ⟨Nat.le_refl _, by unfold maxLen; omega⟩, Half.done (T := 42) (by rw [e]; exact hd), hd.bel⟩
/-- a new table of zeros -/
def MadeE (h wd : Nat) (w : World) (e : Ending) (w' : World) : Prop :=
  ∃ g c vs, e = .returned (.slice (some ⟨g, 0, none⟩) h c) ∧ (h ≤ c ∧ c ≤ maxLen) ∧ OwnT IntV 3 w.heap.size w'.heap.size w' g vs (mkT h wd fun _ _ => 0) ∧ Below w.heap.size w w'
theorem emptyTable_mk (h wd : Nat) (w : World) (hh : h ≤ 1000) (hw : wd ≤ 1000) :
    Calls Try.prog 48 #[.int .i64 h, .int .i64 wd] w (MadeE h wd w) := by
  refine (emptyTable_any h wd w hh hw).mono ?_
  rintro e w' ⟨g, c, vs, rfl, hc, ho, hb⟩
  rw [mkT_len] at hc
  exact ⟨g, c, vs, by rw [mkT_len], hc, ho, hb⟩
end Go.Proofs.Ytncnghmadeghlaa
