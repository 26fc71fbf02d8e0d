/- Lists of people in memory: each in four cells. -/
import Derived.Test.YtncnghmadeghlaaL6In
import Derived.Test.YtncnghmadeghlaaLst
import Derived.Test.YtncnghmadeghlaaInfo
namespace Go.Proofs.Ytncnghmadeghlaa
open Go.RowKit
set_option linter.unusedVariables false
structure Per where
  area : Int
  job : Int
  sex : Int
  pay : Int
abbrev PV (p : Per) : Value := .agg #[.int .i64 p.area, .int .i64 p.job, .int .i64 p.sex, .int .i64 p.pay]
def perOk (p : Per) : Bool := (inB p.area 0 3 && inB p.job 0 3 && inB p.sex 0 1) && inB p.pay 0 999
theorem isCode_any (n : Int) (w : World) : Calls Try.prog 84 #[.int .i64 n] w fun e w' => e = .returned (.bool (inB n 0 3)) ∧ w = w' := by
  by_cases h0 : 0 ≤ n
  · by_cases h1 : n < 4
    · rw [inB_yes h0 (by omega)]
      go_enter Try.func84, Try.ntmps84
      go_wp2_with fail
      go_ret
      exact ⟨rfl, rfl⟩
    · rw [inB_no (by omega)]
      have h1' : decide (n < 4) = false := decide_eq_false h1
      go_enter Try.func84, Try.ntmps84
      go_wp2_with fail
      go_ret
      exact ⟨rfl, rfl⟩
  · rw [inB_no (by omega)]
    have h0' : decide (0 ≤ n) = false := decide_eq_false h0
    go_enter Try.func84, Try.ntmps84
    go_wp2_with fail
    go_ret
    exact ⟨rfl, rfl⟩
theorem isSex_any (n : Int) (w : World) : Calls Try.prog 85 #[.int .i64 n] w fun e w' => e = .returned (.bool (inB n 0 1)) ∧ w = w' := by
  by_cases h0 : n = 0
  · rw [inB_yes (by omega) (by omega)]
    have h0' : (n == 0) = true := by simp [h0]
    clear h0
    go_enter Try.func85, Try.ntmps85
    go_wp2_with fail
    go_ret
    exact ⟨rfl, rfl⟩
  · have h0' : (n == 0) = false := by simp [h0]
    by_cases h1 : n = 1
    · rw [inB_yes (by omega) (by omega)]
      have h1' : (n == 1) = true := by simp [h1]
      clear h0 h1
      go_enter Try.func85, Try.ntmps85
      go_wp2_with fail
      go_ret
      exact ⟨rfl, rfl⟩
    · rw [inB_no (by omega)]
      have h1' : (n == 1) = false := by simp [h1]
      clear h0 h1
      go_enter Try.func85, Try.ntmps85
      go_wp2_with fail
      go_ret
      exact ⟨rfl, rfl⟩
set_option maxHeartbeats 1000000 in
theorem implPersonValid_any (p : Per) (w : World) : Calls Try.prog 81 #[PV p] w fun e w' => e = .returned (.bool (perOk p)) ∧ Below w.heap.size w w' := by
  have H1 := Lib.hid (isCode_any p.area)
  have H2 := Lib.hid (isCode_any p.job)
  have H3 := Lib.hid (isSex_any p.sex)
  obtain ⟨a, j, s, y⟩ := p
  dsimp only at H1 H2 H3
  dsimp only [PV]
  have hp : perOk ⟨a, j, s, y⟩ = (inB a 0 3 && inB j 0 3 && inB s 0 1 && inB y 0 999) := rfl
  rw [hp]
  clear hp
  obtain ⟨b1, e1⟩ : ∃ b, inB a 0 3 = b := ⟨_, rfl⟩
  obtain ⟨b2, e2⟩ : ∃ b, inB j 0 3 = b := ⟨_, rfl⟩
  obtain ⟨b3, e3⟩ : ∃ b, inB s 0 1 = b := ⟨_, rfl⟩
  rw [e1] at H1 ⊢
  rw [e2] at H2 ⊢
  rw [e3] at H3 ⊢
  clear e1 e2 e3
  cases b1
  · go_enter Try.func81, Try.ntmps81
    go_wp2_with fail
    refine (H1.out _).mono ?_
    rintro e w' ⟨rfl, rfl⟩
    go_wp2_with fail
    go_ret
    exact ⟨rfl, (Below.refl _ _).alloc (Nat.le_refl _) _⟩
  cases b2
  · go_enter Try.func81, Try.ntmps81
    go_wp2_with fail
    refine (H1.out _).mono ?_
    rintro e w' ⟨rfl, rfl⟩
    go_wp2_with fail
    refine (H2.out _).mono ?_
    rintro e w' ⟨rfl, rfl⟩
    go_wp2_with fail
    go_ret
    exact ⟨rfl, (Below.refl _ _).alloc (Nat.le_refl _) _⟩
  cases b3
  · go_enter Try.func81, Try.ntmps81
    go_wp2_with fail
    refine (H1.out _).mono ?_
    rintro e w' ⟨rfl, rfl⟩
    go_wp2_with fail
    refine (H2.out _).mono ?_
    rintro e w' ⟨rfl, rfl⟩
    go_wp2_with fail
    refine (H3.out _).mono ?_
    rintro e w' ⟨rfl, rfl⟩
    go_wp2_with fail
    go_ret
    exact ⟨rfl, (Below.refl _ _).alloc (Nat.le_refl _) _⟩
  by_cases h0 : 0 ≤ y
  · by_cases h1 : y ≤ 999
    · rw [inB_yes h0 h1]
      go_enter Try.func81, Try.ntmps81
      go_wp2_with fail
      refine (H1.out _).mono ?_
      rintro e w' ⟨rfl, rfl⟩
      go_wp2_with fail
      refine (H2.out _).mono ?_
      rintro e w' ⟨rfl, rfl⟩
      go_wp2_with fail
      refine (H3.out _).mono ?_
      rintro e w' ⟨rfl, rfl⟩
      go_wp2_with fail
      go_ret
      exact ⟨rfl, (Below.refl _ _).alloc (Nat.le_refl _) _⟩
    · rw [inB_no (by omega)]
      have h1' : decide (y ≤ 999) = false := decide_eq_false h1
      go_enter Try.func81, Try.ntmps81
      go_wp2_with fail
      refine (H1.out _).mono ?_
      rintro e w' ⟨rfl, rfl⟩
      go_wp2_with fail
      refine (H2.out _).mono ?_
      rintro e w' ⟨rfl, rfl⟩
      go_wp2_with fail
      refine (H3.out _).mono ?_
      rintro e w' ⟨rfl, rfl⟩
      go_wp2_with fail
      go_ret
      exact ⟨rfl, (Below.refl _ _).alloc (Nat.le_refl _) _⟩
  · rw [inB_no (by omega)]
    have h0' : decide (0 ≤ y) = false := decide_eq_false h0
    go_enter Try.func81, Try.ntmps81
    go_wp2_with fail
    refine (H1.out _).mono ?_
    rintro e w' ⟨rfl, rfl⟩
    go_wp2_with fail
    refine (H2.out _).mono ?_
    rintro e w' ⟨rfl, rfl⟩
    go_wp2_with fail
    refine (H3.out _).mono ?_
    rintro e w' ⟨rfl, rfl⟩
    go_wp2_with fail
    go_ret
    exact ⟨rfl, (Below.refl _ _).alloc (Nat.le_refl _) _⟩
set_option maxHeartbeats 1000000 in
theorem specPersonValid_any (p : Per) (w : World) : Calls Try.prog 80 #[PV p] w fun e w' => e = .returned (.bool (perOk p)) ∧ Below w.heap.size w w' := by
  have H1 := Lib.hid (l6In_any p.area 0 3)
  have H2 := Lib.hid (l6In_any p.job 0 3)
  have H3 := Lib.hid (l6In_any p.sex 0 1)
  have H4 := Lib.hid (l6In_any p.pay 0 999)
  obtain ⟨a, j, s, y⟩ := p
  dsimp only at H1 H2 H3 H4
  dsimp only [PV]
  have hp : perOk ⟨a, j, s, y⟩ = (inB a 0 3 && inB j 0 3 && inB s 0 1 && inB y 0 999) := rfl
  rw [hp]
  clear hp
  obtain ⟨b1, e1⟩ : ∃ b, inB a 0 3 = b := ⟨_, rfl⟩
  obtain ⟨b2, e2⟩ : ∃ b, inB j 0 3 = b := ⟨_, rfl⟩
  obtain ⟨b3, e3⟩ : ∃ b, inB s 0 1 = b := ⟨_, rfl⟩
  obtain ⟨b4, e4⟩ : ∃ b, inB y 0 999 = b := ⟨_, rfl⟩
  rw [e1] at H1 ⊢
  rw [e2] at H2 ⊢
  rw [e3] at H3 ⊢
  rw [e4] at H4 ⊢
  clear e1 e2 e3 e4
  cases b1
  · go_enter Try.func80, Try.ntmps80
    go_wp2_with fail
    refine (H1.out _).mono ?_
    rintro e w' ⟨rfl, rfl⟩
    go_wp2_with fail
    go_ret
    exact ⟨rfl, (Below.refl _ _).alloc (Nat.le_refl _) _⟩
  cases b2
  · go_enter Try.func80, Try.ntmps80
    go_wp2_with fail
    refine (H1.out _).mono ?_
    rintro e w' ⟨rfl, rfl⟩
    go_wp2_with fail
    refine (H2.out _).mono ?_
    rintro e w' ⟨rfl, rfl⟩
    go_wp2_with fail
    go_ret
    exact ⟨rfl, (Below.refl _ _).alloc (Nat.le_refl _) _⟩
  cases b3
  · go_enter Try.func80, Try.ntmps80
    go_wp2_with fail
    refine (H1.out _).mono ?_
    rintro e w' ⟨rfl, rfl⟩
    go_wp2_with fail
    refine (H2.out _).mono ?_
    rintro e w' ⟨rfl, rfl⟩
    go_wp2_with fail
    refine (H3.out _).mono ?_
    rintro e w' ⟨rfl, rfl⟩
    go_wp2_with fail
    go_ret
    exact ⟨rfl, (Below.refl _ _).alloc (Nat.le_refl _) _⟩
  · go_enter Try.func80, Try.ntmps80
    go_wp2_with fail
    refine (H1.out _).mono ?_
    rintro e w' ⟨rfl, rfl⟩
    go_wp2_with fail
    refine (H2.out _).mono ?_
    rintro e w' ⟨rfl, rfl⟩
    go_wp2_with fail
    refine (H3.out _).mono ?_
    rintro e w' ⟨rfl, rfl⟩
    go_wp2_with fail
    refine (H4.out _).mono ?_
    rintro e w' ⟨rfl, rfl⟩
    go_wp2_with fail
    go_ret
    exact ⟨rfl, (Below.refl _ _).alloc (Nat.le_refl _) _⟩
end Go.Proofs.Ytncnghmadeghlaa
