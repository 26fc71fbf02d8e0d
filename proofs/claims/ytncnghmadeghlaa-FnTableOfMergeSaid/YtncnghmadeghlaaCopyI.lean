/- copyTable of the program: a table in new memory, its outer row known whole. -/
import Derived.Test.YtncnghmadeghlaaClone
import Derived.Test.YtncnghmadeghlaaMadeT
import Derived.Test.YtncnghmadeghlaaRowsV
namespace Go.Proofs.Ytncnghmadeghlaa
open Go.RowKit
set_option linter.unusedVariables false
/-- a copy: the outer row at g, the rows' values vs -/
def CopiedT (T E : TypeId) (w : World) (h wd : Nat) (F : Nat → Nat → Int) (e : Ending) (w' : World) : Prop :=
  ∃ g vs, e = .returned (.slice (some ⟨g, 0, none⟩) h h) ∧ w'.ownsRow w.heap.size T 1 (.slice (some ⟨g, 0, none⟩) h h) h (mkL h vs) ∧ OwnT IntV E w.heap.size w'.heap.size w' g vs (mkT h wd F) ∧ Below w.heap.size w w'
set_option maxHeartbeats 800000 in
theorem copyTable_any (A : Option Addr) (c h wd : Nat) (F : Nat → Nat → Int) (w : World) (hx : Tab IntV w A (mkT h wd F)) (h4 : h ≤ 1000) (w1 : 1 ≤ wd) (w4 : wd ≤ 1000) :
    Calls Try.prog 59 #[.slice A h c] w (CopiedT 42 3 w h wd F) := by
  have hmk := run_make_row' (P := Try.prog) 24 42 (.slice none 0 0) 24 Try.underlying24 nfoIS rfl .i64 .i64 h (by omega) (by omega)
  have hst := Half.start (f := IntV) (T := 42) (E := 3) w h (mkT h wd F) (by unfold maxLen; omega)
  have HST := Lib.hid hst
  clear hst
  go_enter Try.func59, Try.ntmps59
  go_wp2_with fail
  go_loopw [11] (fun i wr => ∃ (k : Nat) (vs : Nat → Value), k ≤ h ∧ i = .int .i64 k ∧ Hid (Half IntV 42 3 w wr h k vs (mkT h wd F))) (fun i _ => h - (intOf i).toNat)
  case atStart => exact ⟨0, _, Nat.zero_le _, rfl, HST⟩
  case round =>
    obtain ⟨k, vs, hk, rfl, HH⟩ := hrel
    obtain ⟨wo, rfl⟩ : ∃ wo : World, wo = wr := ⟨_, rfl⟩
    by_cases hlt : k < h
    · obtain ⟨b, o, Ar, cr, rfl, hb, hc, hL⟩ := (hx.below HH.out.bel).mkrow hlt
      obtain ⟨b2, o2, x, rfl, -⟩ := hL.1.at_ (k := 0) (by rw [mkL_len]; omega)
      have hcl := cloneI_any ⟨b2, o2, none⟩ cr (mkL wd (F k)) wo hL (by rw [mkL_len]; omega)
      rw [mkL_len] at hcl
      have HCL := Lib.hid hcl
      clear hL hcl
      go_wp2_with fail
      refine HCL.out.mono ?_
      rintro e w1 ⟨A1, c1, rfl, ho1, hb1⟩
      have hs := HH.out.step hlt (mkT_get F hlt) ho1 hb1
      have HS := Lib.hid hs
      have hout := own_below HH.out.outer hb1
      obtain ⟨y, hy⟩ : ∃ y, w1.cell? ⟨w.heap.size, k, none⟩ = some y := by
        rw [hout.cellAt k (by omega)]
        exact ⟨_, List.getElem?_eq_getElem (by simp; omega)⟩
      have hf := hout.frozenAt k
      rw [mkL_len] at HS ⊢
      clear hs hout ho1 hc HCL
      go_wp2_with fail
      go_roundw
      case rel => exact ⟨k + 1, _, by omega, by go_num, HS⟩
      case measure => simp [intOf]; omega
    · obtain rfl : k = h := by omega
      go_wp2_with fail
      go_ret
      have hout := HH.out.outer
      have hd := HH.out
      refine ⟨_, vs, rfl, ?_, ?_, HH.out.bel⟩
      · simpa [mkL] using hout
      · have e : (mkT k wd F).length = k := mkT_len _ _ _
        exact Half.done (T := 42) (by rw [e]; exact hd)
end Go.Proofs.Ytncnghmadeghlaa
