/- The contract of PartsLead of the reference. -/
import Derived.Test.YtloehocldbfbbaaTopS2
import Derived.Test.YtloehocldbfbbaaLeadW
namespace Go.Proofs.Ytloehocldbfbbaa
open Go.RowKit
set_option linter.unusedVariables false
theorem specTop_v2 (A : Option Addr) (c : Nat) (xs : List Int) (n : Int) (k : Nat) (w : World) (hk : n = (k : Int)) (hk1 : k ≤ 100) (hx : Lst IntV w A c xs) (hv : partsValid xs = true) :
    Calls Try.prog 29 #[.slice A xs.length c, .int .i64 n] w (Gives (.int .i64 (top xs k)) w) := by
  have hl := valid_len hv
  have h := specPartsTop_g A c xs n w hx (by omega) (fun x hm => WalkArith.wf_i64 (by have := valid_mem hv x hm; omega)) (WalkArith.wf_i64 (by omega))
  subst hk
  rw [partsTop_nat hv] at h
  exact h
set_option maxHeartbeats 1000000 in
theorem specPartsLead_g (A : Option Addr) (c : Nat) (xs : List Int) (n p : Int) (w : World) (hx : Lst IntV w A c xs) (hl : xs.length ≤ 1048576) (hw : ∀ n ∈ xs, (Lit.int .i64 n).wf = true) (hn : (Lit.int .i64 n).wf = true) (hp : (Lit.int .i64 p).wf = true) :
    Calls Try.prog 18 #[.slice A xs.length c, .int .i64 n, .int .i64 p] w (Gives (.bool (partsLead xs n p)) w) := by
  clear hw hn hp
  have HL := Lib.hid hx
  cases hv : partsValid xs
  · have HV := Lib.hid hv
    go_enter Try.func18, Try.ntmps18
    go_wp2_with fail
    refine (specPartsValid_any _ _ _ _ hx.1 (by unfold maxLen; omega)).mono ?_
    rintro e w' ⟨rfl, rfl⟩
    go_wp2_with fail
    go_ret
    exact ⟨ret_bool (lead_no (by rw [HV.out]; simp)).symm, Below.refl _ _⟩
  have HV := Lib.hid hv
  by_cases hn1 : ¬ (1 ≤ n ∧ n ≤ 20)
  · have hnc := inB_no (n := n) (lo := 1) (hi := 20) (by omega)
    go_enter Try.func18, Try.ntmps18
    go_wp2_with fail
    refine (specPartsValid_any _ _ _ _ hx.1 (by unfold maxLen; omega)).mono ?_
    rintro e w' ⟨rfl, rfl⟩
    go_wp2_with fail
    refine (l6In_any _ _ _ _).mono ?_
    rintro e w' ⟨rfl, rfl⟩
    go_wp2_with fail
    go_ret
    exact ⟨ret_bool (lead_no (by omega)).symm, Below.refl _ _⟩
  have hnc := inB_yes (n := n) (lo := 1) (hi := 20) (by omega) (by omega)
  by_cases hp : 0 ≤ p ∧ p ≤ 100
  · have hpc := inB_yes hp.1 hp.2
    obtain ⟨k, rfl⟩ := Int.eq_ofNat_of_zero_le (a := n) (by omega)
    have p0 := hp.1
    have p1 := hp.2
    have hlen := valid_len hv
    have t1 := top_range hv k
    have t10 := t1.1
    have t11 := t1.2
    have t3 := top_range hv 20
    have t30 := t3.1
    have t31 := t3.2
    have m := mul_range t30 t31 p0 p1
    rw [Int.mul_comm] at m
    have m0 := m.1
    have m1 := m.2
    have hk : (k : Int) ≤ 20 := by omega
    have hld : partsLead xs k p = decide (p * top xs 20 < top xs k * 100) := by rw [lead_yes hv (by omega) hp, show top xs 20 = tot xs from top_all (valid_len hv)]; rfl
    have HLD := Lib.hid hld
    clear hp m t1 t3 hld hn1
    by_cases hlt : p * top xs 20 < top xs k * 100
    all_goals
      go_enter Try.func18, Try.ntmps18
      go_wp2_with fail
      refine (specPartsValid_any _ _ _ _ HL.out.1 (by unfold maxLen; omega)).mono ?_
      rintro e w' ⟨rfl, rfl⟩
      go_wp2_with fail
      refine (l6In_any _ _ _ _).mono ?_
      rintro e w' ⟨rfl, rfl⟩
      go_wp2_with fail
      refine (l6In_any _ _ _ _).mono ?_
      rintro e w' ⟨rfl, rfl⟩
      go_wp2_with fail
      refine (specTop_v2 A c xs k k _ rfl (by omega) HL.out HV.out).mono ?_
      rintro e w2 ⟨rfl, hb2⟩
      go_wp2_with fail
      refine (specTop_v2 A c xs 20 20 _ rfl (by omega) (HL.out.below hb2) HV.out).mono ?_
      rintro e w3 ⟨rfl, hb3⟩
      go_wp2_with fail
      go_ret
      exact ⟨ret_bool (by rw [HLD.out]; first | exact (decide_eq_true hlt).symm | exact (decide_eq_false (by omega)).symm | skip), hb2.trans (hb3.mono hb2.size)⟩
  · have hpc := inB_no (n := p) (lo := 0) (hi := 100) (by omega)
    go_enter Try.func18, Try.ntmps18
    go_wp2_with fail
    refine (specPartsValid_any _ _ _ _ hx.1 (by unfold maxLen; omega)).mono ?_
    rintro e w' ⟨rfl, rfl⟩
    go_wp2_with fail
    refine (l6In_any _ _ _ _).mono ?_
    rintro e w' ⟨rfl, rfl⟩
    go_wp2_with fail
    refine (l6In_any _ _ _ _).mono ?_
    rintro e w' ⟨rfl, rfl⟩
    go_wp2_with fail
    go_ret
    exact ⟨ret_bool (lead_no (by omega)).symm, Below.refl _ _⟩
end Go.Proofs.Ytloehocldbfbbaa
