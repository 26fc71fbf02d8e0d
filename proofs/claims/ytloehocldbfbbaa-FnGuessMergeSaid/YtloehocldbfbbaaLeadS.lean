/- Contracts of PartsLead, l12Rest, PartsSpare and PartsGuess of the reference. -/
import Derived.Test.YtloehocldbfbbaaTopS2
import Derived.Test.YtloehocldbfbbaaLeadW
namespace Go.Proofs.Ytloehocldbfbbaa
open Go.RowKit
set_option linter.unusedVariables false
theorem specTop_v (A : Option Addr) (c : Nat) (xs : List Int) (n : Int) (k : Nat) (w : World) (hk : n = (k : Int)) (hk1 : k ≤ 100) (hx : Lst IntV w A c xs) (hv : partsValid xs = true) :
    Calls Try.prog 29 #[.slice A xs.length c, .int .i64 n] w (Gives (.int .i64 (top xs k)) w) := by
  have hl := valid_len hv
  have h := specPartsTop_g A c xs n w hx (by omega) (fun x hm => WalkArith.wf_i64 (by have := valid_mem hv x hm; omega)) (WalkArith.wf_i64 (by omega))
  subst hk
  rw [partsTop_nat hv] at h
  exact h
theorem top20' {xs : List Int} (h : partsValid xs = true) : top xs 20 = tot xs := top_all (valid_len h)

set_option maxHeartbeats 400000 in
theorem l12Rest_v (A : Option Addr) (c : Nat) (xs : List Int) (w : World) (hx : Lst IntV w A c xs) (hv : partsValid xs = true) :
    Calls Try.prog 30 #[.slice A xs.length c] w (Gives (.int .i64 (tot xs - top xs 2)) w) := by
  have HL := Lib.hid hx
  have HV := Lib.hid hv
  have t2 := top_range hv 2
  have t20 := t2.1
  have t21 := t2.2
  have t3 := top_range hv 20
  have t30 := t3.1
  have t31 := t3.2
  clear hx hv t2 t3
  go_enter Try.func30, Try.ntmps30
  go_wp2_with fail
  refine (specTop_v A c xs 20 20 _ rfl (by omega) HL.out HV.out).mono ?_
  rintro e w2 ⟨rfl, hb2⟩
  go_wp2_with fail
  refine (specTop_v A c xs 2 2 _ rfl (by omega) (HL.out.below hb2) HV.out).mono ?_
  rintro e w3 ⟨rfl, hb3⟩
  go_wp2_with fail
  go_ret
  exact ⟨ret_int (by rw [top20' HV.out]), hb2.trans (hb3.mono hb2.size)⟩

set_option maxHeartbeats 1000000 in
theorem specPartsSpare_g (A : Option Addr) (c : Nat) (xs : List Int) (p : Int) (w : World) (hx : Lst IntV w A c xs) (hl : xs.length ≤ 1048576) (hw : ∀ n ∈ xs, (Lit.int .i64 n).wf = true) (hp : (Lit.int .i64 p).wf = true) :
    Calls Try.prog 22 #[.slice A xs.length c, .int .i64 p] w (Gives (.int .i64 (partsSpare xs p)) w) := by
  clear hw hp
  have HL := Lib.hid hx
  cases hv : partsValid xs
  · have HV := Lib.hid hv
    go_enter Try.func22, Try.ntmps22
    go_wp2_with fail
    refine (specPartsValid_any _ _ _ _ hx.1 (by unfold maxLen; omega)).mono ?_
    rintro e w' ⟨rfl, rfl⟩
    go_wp2_with fail
    go_ret
    exact ⟨ret_int (spare_no (by rw [HV.out]; simp)).symm, Below.refl _ _⟩
  have HV := Lib.hid hv
  by_cases hp : 0 ≤ p ∧ p ≤ 100
  · have hpc := inB_yes hp.1 hp.2
    have p0 := hp.1
    have p1 := hp.2
    have hlen := valid_len hv
    have t1 := top_range hv 1
    have t10 := t1.1
    have t11 := t1.2
    have t2 := top_range hv 2
    have t20 := t2.1
    have t21 := t2.2
    have t3 := tot_range hv
    have t30 := t3.1
    have t31 := t3.2
    have t4 := rest_range hv 2
    have m := mul_range t10 t11 p0 p1
    have m0 := m.1
    have m1 := m.2
    have hnd : need xs p = top xs 1 * p - 100 * (tot xs - top xs 2) := rfl
    have HN := Lib.hid hnd
    clear hp m t1 t2 t3 hnd
    go_enter Try.func22, Try.ntmps22
    go_wp2_with fail
    refine (specPartsValid_any _ _ _ _ HL.out.1 (by unfold maxLen; omega)).mono ?_
    rintro e w' ⟨rfl, rfl⟩
    go_wp2_with fail
    refine (l6In_any _ _ _ _).mono ?_
    rintro e w' ⟨rfl, rfl⟩
    go_wp2_with fail
    refine (specTop_v A c xs 1 1 _ rfl (by omega) HL.out HV.out).mono ?_
    rintro e w2 ⟨rfl, hb2⟩
    go_wp2_with fail
    refine (l12Rest_v A c xs _ (HL.out.below hb2) HV.out).mono ?_
    rintro e w3 ⟨rfl, hb3⟩
    have hbe := hb2.trans (hb3.mono hb2.size)
    by_cases hd : top xs 1 * p - 100 * (tot xs - top xs 2) ≤ 0
    · go_wp2_with fail
      go_ret
      refine ⟨ret_int ?_, hbe⟩
      rw [spare_yes HV.out ⟨p0, p1⟩, if_pos (by rw [HN.out]; omega)]
    · go_wp2_with fail
      go_ret
      refine ⟨ret_int ?_, hbe⟩
      rw [spare_yes HV.out ⟨p0, p1⟩, if_neg (by rw [HN.out]; omega), HN.out]
  · have hpc := inB_no (n := p) (lo := 0) (hi := 100) (by omega)
    go_enter Try.func22, Try.ntmps22
    go_wp2_with fail
    refine (specPartsValid_any _ _ _ _ hx.1 (by unfold maxLen; omega)).mono ?_
    rintro e w' ⟨rfl, rfl⟩
    go_wp2_with fail
    refine (l6In_any _ _ _ _).mono ?_
    rintro e w' ⟨rfl, rfl⟩
    go_wp2_with fail
    go_ret
    exact ⟨ret_int (spare_no (by omega)).symm, Below.refl _ _⟩
end Go.Proofs.Ytloehocldbfbbaa
