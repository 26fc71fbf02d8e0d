/- The contract of PartsGuess of the reference. -/
import Derived.Test.YtloehocldbfbbaaLeadS
namespace Go.Proofs.Ytloehocldbfbbaa
open Go.RowKit
set_option linter.unusedVariables false
theorem guess_no {xs : List Int} {p : Int} (h : ¬ (partsValid xs = true ∧ 0 ≤ p ∧ p ≤ 100)) : partsGuess xs p = false := by rw [partsGuess, spareOk_no h]; rfl
theorem guess_yes {xs : List Int} {p : Int} (h : partsValid xs = true) (hp : 0 ≤ p ∧ p ≤ 100) : partsGuess xs p = decide (0 < need xs p) := by rw [partsGuess, spareOk_iff.2 ⟨h, hp⟩, Bool.true_and]
set_option maxHeartbeats 1000000 in
theorem specPartsGuess_g (A : Option Addr) (c : Nat) (xs : List Int) (p : Int) (w : World) (hx : Lst IntV w A c xs) (hl : xs.length ≤ 1048576) (hw : ∀ n ∈ xs, (Lit.int .i64 n).wf = true) (hp : (Lit.int .i64 p).wf = true) :
    Calls Try.prog 14 #[.slice A xs.length c, .int .i64 p] w (Gives (.bool (partsGuess xs p)) w) := by
  clear hw hp
  have HL := Lib.hid hx
  cases hv : partsValid xs
  · have HV := Lib.hid hv
    go_enter Try.func14, Try.ntmps14
    go_wp2_with fail
    refine (specPartsValid_any _ _ _ _ hx.1 (by unfold maxLen; omega)).mono ?_
    rintro e w' ⟨rfl, rfl⟩
    go_wp2_with fail
    go_ret
    exact ⟨ret_bool (guess_no (by rw [HV.out]; simp)).symm, Below.refl _ _⟩
  have HV := Lib.hid hv
  by_cases hp : 0 ≤ p ∧ p ≤ 100
  · have hpc := inB_yes hp.1 hp.2
    have p0 := hp.1
    have p1 := hp.2
    have hlen := valid_len hv
    have t1 := top_range hv 1
    have t10 := t1.1
    have t11 := t1.2
    have t2 := top_range hv 2
    have t20 := t2.1
    have t21 := t2.2
    have t3 := tot_range hv
    have t30 := t3.1
    have t31 := t3.2
    have t4 := rest_range hv 2
    have m := mul_range t10 t11 p0 p1
    have m0 := m.1
    have m1 := m.2
    have hnd : partsGuess xs p = decide (0 < top xs 1 * p - 100 * (tot xs - top xs 2)) := guess_yes hv hp
    have HN := Lib.hid hnd
    clear hp m t1 t2 t3 hnd
    by_cases hd : 100 * (tot xs - top xs 2) < top xs 1 * p
    · go_enter Try.func14, Try.ntmps14
      go_wp2_with fail
      refine (specPartsValid_any _ _ _ _ HL.out.1 (by unfold maxLen; omega)).mono ?_
      rintro e w' ⟨rfl, rfl⟩
      go_wp2_with fail
      refine (l6In_any _ _ _ _).mono ?_
      rintro e w' ⟨rfl, rfl⟩
      go_wp2_with fail
      refine (specTop_v A c xs 1 1 _ rfl (by omega) HL.out HV.out).mono ?_
      rintro e w2 ⟨rfl, hb2⟩
      go_wp2_with fail
      refine (l12Rest_v A c xs _ (HL.out.below hb2) HV.out).mono ?_
      rintro e w3 ⟨rfl, hb3⟩
      have hbe := hb2.trans (hb3.mono hb2.size)
      go_wp2_with fail
      go_ret
      exact ⟨ret_bool (by rw [HN.out, decide_eq_true (by omega)]), hbe⟩
    · go_enter Try.func14, Try.ntmps14
      go_wp2_with fail
      refine (specPartsValid_any _ _ _ _ HL.out.1 (by unfold maxLen; omega)).mono ?_
      rintro e w' ⟨rfl, rfl⟩
      go_wp2_with fail
      refine (l6In_any _ _ _ _).mono ?_
      rintro e w' ⟨rfl, rfl⟩
      go_wp2_with fail
      refine (specTop_v A c xs 1 1 _ rfl (by omega) HL.out HV.out).mono ?_
      rintro e w2 ⟨rfl, hb2⟩
      go_wp2_with fail
      refine (l12Rest_v A c xs _ (HL.out.below hb2) HV.out).mono ?_
      rintro e w3 ⟨rfl, hb3⟩
      have hbe := hb2.trans (hb3.mono hb2.size)
      go_wp2_with fail
      go_ret
      exact ⟨ret_bool (by rw [HN.out, decide_eq_false (p := 0 < top xs 1 * p - 100 * (tot xs - top xs 2)) (by omega)]; first | done | rfl | exact decide_eq_false (by omega)), hbe⟩
  · have hpc := inB_no (n := p) (lo := 0) (hi := 100) (by omega)
    go_enter Try.func14, Try.ntmps14
    go_wp2_with fail
    refine (specPartsValid_any _ _ _ _ hx.1 (by unfold maxLen; omega)).mono ?_
    rintro e w' ⟨rfl, rfl⟩
    go_wp2_with fail
    refine (l6In_any _ _ _ _).mono ?_
    rintro e w' ⟨rfl, rfl⟩
    go_wp2_with fail
    go_ret
    exact ⟨ret_bool (guess_no (by omega)).symm, Below.refl _ _⟩
end Go.Proofs.Ytloehocldbfbbaa
