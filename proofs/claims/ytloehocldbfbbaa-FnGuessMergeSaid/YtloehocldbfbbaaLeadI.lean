/- Contracts of isPercent, PartsLead, PartsSpare and PartsGuess of the program. -/
import Derived.Test.YtloehocldbfbbaaTopI
import Derived.Test.YtloehocldbfbbaaLeadW
namespace Go.Proofs.Ytloehocldbfbbaa
open Go.RowKit
set_option linter.unusedVariables false
theorem tdiv_neg {x : Int} (h : x < 0) : x.tdiv 100 ≤ 0 := by
  obtain ⟨k, hk⟩ := Int.eq_ofNat_of_zero_le (a := -x) (by omega)
  obtain rfl : x = -(k : Int) := by omega
  rw [Int.neg_tdiv, Int.tdiv_eq_ediv_of_nonneg (by omega)]
  omega
def isPct (p : Int) : Bool := decide (0 ≤ p ∧ p ≤ 100)
theorem pct_yes {p : Int} (h : 0 ≤ p ∧ p ≤ 100) : isPct p = true := decide_eq_true h
theorem pct_no {p : Int} (h : ¬ (0 ≤ p ∧ p ≤ 100)) : isPct p = false := decide_eq_false h
set_option maxHeartbeats 400000 in
theorem isPercent_any (p : Int) (w : World) :
    Calls Try.prog 32 #[.int .i64 p] w fun e w' => e = .returned (.bool (isPct p)) ∧ w = w' := by
  by_cases h1 : 0 ≤ p
  · by_cases h2 : p ≤ 100
    · go_enter Try.func32, Try.ntmps32
      go_wp2
      go_ret
      exact ⟨ret_bool (pct_yes ⟨h1, h2⟩).symm, rfl⟩
    · go_enter Try.func32, Try.ntmps32
      go_wp2
      go_ret
      exact ⟨ret_bool (pct_no (by omega)).symm, rfl⟩
  · go_enter Try.func32, Try.ntmps32
    go_wp2
    go_ret
    exact ⟨ret_bool (pct_no (by omega)).symm, rfl⟩

set_option maxHeartbeats 1000000 in
theorem implPartsSpare_g (A : Option Addr) (c : Nat) (xs : List Int) (p : Int) (w : World) (hx : Lst IntV w A c xs) (hl : xs.length ≤ 1048576) (hw : ∀ n ∈ xs, (Lit.int .i64 n).wf = true) (hp : (Lit.int .i64 p).wf = true) :
    Calls Try.prog 21 #[.slice A xs.length c, .int .i64 p] w (Gives (.int .i64 (partsSpare xs p)) w) := by
  clear hw hp
  have HL := Lib.hid hx
  cases hv : partsValid xs
  · have HV := Lib.hid hv
    go_enter Try.func21, Try.ntmps21
    go_wp2_with fail
    refine (implPartsValid_any _ _ _ _ hx.1 (by unfold maxLen; omega)).mono ?_
    rintro e w' ⟨rfl, rfl⟩
    go_wp2_with fail
    go_ret
    exact ⟨ret_int (spare_no (by rw [HV.out]; simp)).symm, Below.refl _ _⟩
  have HV := Lib.hid hv
  by_cases hp : 0 ≤ p ∧ p ≤ 100
  · have hpc := pct_yes hp
    have p0 := hp.1
    have p1 := hp.2
    have hlen := valid_len hv
    have t1 := top_range hv 1
    have t10 := t1.1
    have t11 := t1.2
    have t2 := top_range hv 2
    have t20 := t2.1
    have t21 := t2.2
    have t3 := tot_range hv
    have t30 := t3.1
    have t31 := t3.2
    have t4 := rest_range hv 2
    have m := mul_range t10 t11 p0 p1
    have m0 := m.1
    have m1 := m.2
    have hnd : need xs p = top xs 1 * p - 100 * (tot xs - top xs 2) := rfl
    have HN := Lib.hid hnd
    clear hp m t1 t2 t3 hnd
    go_enter Try.func21, Try.ntmps21
    go_wp2_with fail
    refine (implPartsValid_any _ _ _ _ HL.out.1 (by unfold maxLen; omega)).mono ?_
    rintro e w' ⟨rfl, rfl⟩
    go_wp2_with fail
    refine (isPercent_any _ _).mono ?_
    rintro e w' ⟨rfl, rfl⟩
    go_wp2_with fail
    refine (topSum_any A c xs 1 _ HL.out hlen (valid_mem HV.out) (by omega)).mono ?_
    rintro e w2 ⟨rfl, hb2⟩
    go_wp2_with fail
    refine (total_any A c xs.length xs _ rfl (HL.out.below hb2).1 (valid_mem HV.out) (by omega)).mono ?_
    rintro e w' ⟨rfl, rfl⟩
    go_wp2_with fail
    refine (topSum_any A c xs 2 _ (HL.out.below hb2) hlen (valid_mem HV.out) (by omega)).mono ?_
    rintro e w3 ⟨rfl, hb3⟩
    have hbe := hb2.trans (hb3.mono hb2.size)
    by_cases hd : top xs 1 * p - 100 * (tot xs - top xs 2) ≤ 0
    · by_cases hd2 : 0 ≤ top xs 1 * p - 100 * (tot xs - top xs 2) + 99
      · go_wp2_with fail
        go_ret
        refine ⟨ret_int ?_, hbe⟩
        rw [spare_yes HV.out ⟨p0, p1⟩, if_pos (by rw [HN.out]; omega)]
        omega
      · have htd := tdiv_neg (x := top xs 1 * p - 100 * (tot xs - top xs 2) + 99) (by omega)
        go_wp2_with fail
        go_ret
        refine ⟨ret_int ?_, hbe⟩
        rw [spare_yes HV.out ⟨p0, p1⟩, if_pos (by rw [HN.out]; omega)]
        omega
    · go_wp2_with fail
      go_ret
      refine ⟨ret_int ?_, hbe⟩
      rw [spare_yes HV.out ⟨p0, p1⟩, if_neg (by rw [HN.out]; omega), HN.out]
      omega
  · have hpc := pct_no hp
    go_enter Try.func21, Try.ntmps21
    go_wp2_with fail
    refine (implPartsValid_any _ _ _ _ hx.1 (by unfold maxLen; omega)).mono ?_
    rintro e w' ⟨rfl, rfl⟩
    go_wp2_with fail
    refine (isPercent_any _ _).mono ?_
    rintro e w' ⟨rfl, rfl⟩
    go_wp2_with fail
    go_ret
    exact ⟨ret_int (spare_no (by omega)).symm, Below.refl _ _⟩

set_option maxHeartbeats 400000 in
theorem implPartsGuess_g (A : Option Addr) (c : Nat) (xs : List Int) (p : Int) (w : World) (hx : Lst IntV w A c xs) (hl : xs.length ≤ 1048576) (hw : ∀ n ∈ xs, (Lit.int .i64 n).wf = true) (hp : (Lit.int .i64 p).wf = true) :
    Calls Try.prog 13 #[.slice A xs.length c, .int .i64 p] w (Gives (.bool (partsGuess xs p)) w) := by
  have hg := guess_spare xs p
  have HG := Lib.hid hg
  have HW := Lib.hid hw
  clear hg hw
  by_cases h : 0 < partsSpare xs p
  · go_enter Try.func13, Try.ntmps13
    go_wp2_with fail
    refine (implPartsSpare_g A c xs p _ hx hl HW.out hp).mono ?_
    rintro e w2 ⟨rfl, hb⟩
    go_wp2_with fail
    go_ret
    exact ⟨ret_bool (by rw [HG.out, decide_eq_true h]), hb⟩
  · go_enter Try.func13, Try.ntmps13
    go_wp2_with fail
    refine (implPartsSpare_g A c xs p _ hx hl HW.out hp).mono ?_
    rintro e w2 ⟨rfl, hb⟩
    go_wp2_with fail
    go_ret
    exact ⟨ret_bool (by rw [HG.out, decide_eq_false (by omega)]), hb⟩

set_option maxHeartbeats 1000000 in
theorem implPartsLead_g (A : Option Addr) (c : Nat) (xs : List Int) (n p : Int) (w : World) (hx : Lst IntV w A c xs) (hl : xs.length ≤ 1048576) (hw : ∀ n ∈ xs, (Lit.int .i64 n).wf = true) (hn : (Lit.int .i64 n).wf = true) (hp : (Lit.int .i64 p).wf = true) :
    Calls Try.prog 17 #[.slice A xs.length c, .int .i64 n, .int .i64 p] w (Gives (.bool (partsLead xs n p)) w) := by
  clear hw hn hp
  have HL := Lib.hid hx
  cases hv : partsValid xs
  · have HV := Lib.hid hv
    go_enter Try.func17, Try.ntmps17
    go_wp2_with fail
    refine (implPartsValid_any _ _ _ _ hx.1 (by unfold maxLen; omega)).mono ?_
    rintro e w' ⟨rfl, rfl⟩
    go_wp2_with fail
    go_ret
    exact ⟨ret_bool (lead_no (by rw [HV.out]; simp)).symm, Below.refl _ _⟩
  have HV := Lib.hid hv
  by_cases hn1 : n < 1
  · go_enter Try.func17, Try.ntmps17
    go_wp2_with fail
    refine (implPartsValid_any _ _ _ _ hx.1 (by unfold maxLen; omega)).mono ?_
    rintro e w' ⟨rfl, rfl⟩
    go_wp2_with fail
    go_ret
    exact ⟨ret_bool (lead_no (by omega)).symm, Below.refl _ _⟩
  have hn1' : decide (n < 1) = false := decide_eq_false hn1
  by_cases hn2 : 20 < n
  · go_enter Try.func17, Try.ntmps17
    go_wp2_with fail
    refine (implPartsValid_any _ _ _ _ hx.1 (by unfold maxLen; omega)).mono ?_
    rintro e w' ⟨rfl, rfl⟩
    go_wp2_with fail
    go_ret
    exact ⟨ret_bool (lead_no (by omega)).symm, Below.refl _ _⟩
  have hn2' : decide (20 < n) = false := decide_eq_false hn2
  by_cases hp : 0 ≤ p ∧ p ≤ 100
  · have hpc := pct_yes hp
    obtain ⟨k, rfl⟩ := Int.eq_ofNat_of_zero_le (a := n) (by omega)
    have p0 := hp.1
    have p1 := hp.2
    have hlen := valid_len hv
    have t1 := top_range hv k
    have t10 := t1.1
    have t11 := t1.2
    have t3 := tot_range hv
    have t30 := t3.1
    have t31 := t3.2
    have m := mul_range t30 t31 p0 p1
    rw [Int.mul_comm] at m
    have m0 := m.1
    have m1 := m.2
    have hk : (k : Int) ≤ 20 := by omega
    have hld : partsLead xs k p = decide (p * tot xs < top xs k * 100) := lead_yes hv (by omega) hp
    have HLD := Lib.hid hld
    clear hp m t1 t3 hld
    by_cases hlt : p * tot xs < top xs k * 100
    all_goals
      go_enter Try.func17, Try.ntmps17
      go_wp2_with fail
      refine (implPartsValid_any _ _ _ _ HL.out.1 (by unfold maxLen; omega)).mono ?_
      rintro e w' ⟨rfl, rfl⟩
      go_wp2_with fail
      refine (isPercent_any _ _).mono ?_
      rintro e w' ⟨rfl, rfl⟩
      go_wp2_with fail
      refine (topSum_any A c xs k _ HL.out hlen (valid_mem HV.out) (by omega)).mono ?_
      rintro e w2 ⟨rfl, hb2⟩
      go_wp2_with fail
      refine (total_any A c xs.length xs _ rfl (HL.out.below hb2).1 (valid_mem HV.out) (by omega)).mono ?_
      rintro e w' ⟨rfl, rfl⟩
      go_wp2_with fail
      go_ret
      exact ⟨ret_bool (by rw [HLD.out]; first | exact (decide_eq_true hlt).symm | exact (decide_eq_false (by omega)).symm | skip), hb2⟩
  · have hpc := pct_no hp
    go_enter Try.func17, Try.ntmps17
    go_wp2_with fail
    refine (implPartsValid_any _ _ _ _ hx.1 (by unfold maxLen; omega)).mono ?_
    rintro e w' ⟨rfl, rfl⟩
    go_wp2_with fail
    refine (isPercent_any _ _).mono ?_
    rintro e w' ⟨rfl, rfl⟩
    go_wp2_with fail
    go_ret
    exact ⟨ret_bool (lead_no (by omega)).symm, Below.refl _ _⟩
end Go.Proofs.Ytloehocldbfbbaa
