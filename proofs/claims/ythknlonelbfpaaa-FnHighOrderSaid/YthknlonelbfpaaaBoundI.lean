/- hasCell; BoundHigh and BoundLow of the program, given what shift tells. -/
import Derived.Test.YthknlonelbfpaaaBoundS
import Derived.Test.YthknlonelbfpaaaTailQ
import Derived.Deep.RegionWith
namespace Go.Proofs.Ythknlonelbfpaaa
open Go.RowKit
set_option linter.unusedVariables false
/-- what a flow tells -/
def FlowOf (h wd a b : Nat) (G : Nat → Nat → Int) (M : Nat → Nat → Bool) (gr : Bool) (w : World) (e : Ending) (w' : World) : Prop :=
  ∃ f : Int, e = .returned (.int .i64 f) ∧ 0 ≤ f ∧ f ≤ 2000 ∧ (gr = true → IsHigh h wd G M a b (G a b + f)) ∧ (gr = false → IsLow h wd G M a b (max 0 (G a b - f))) ∧ Below w.heap.size w w'
/-- the contract of shift -/
def ShiftC : Prop := ∀ (A B : Option Addr) (c d h wd a b : Nat) (G : Nat → Nat → Int) (M : Nat → Nat → Bool) (gr : Bool) (w : World), Tab IntV w A (mkT h wd G) → Tab BoolV w B (mkT h wd M) → Good h wd G → a < h → b < wd → M a b = true →
    Calls Try.prog 21 #[.slice A h c, .slice B h d, .int .i64 a, .int .i64 b, .bool gr] w (FlowOf h wd a b G M gr w)
set_option maxHeartbeats 400000 in
theorem hasCell_no (A B : Option Addr) (c d : Nat) (t : List (List Int)) (m : List (List Bool)) (i j : Int) (w : World) (hx : Tab IntV w A t) (hy : Tab BoolV w B m) (hl : t.length ≤ maxLen) (hm : m.length ≤ maxLen) (hv : maskValid t m = false) :
    Calls Try.prog 20 #[.slice A t.length c, .slice B m.length d, .int .i64 i, .int .i64 j] w fun e w' => e = .returned (.bool false) ∧ w = w' := by
  have hc := implMaskValid_any A B c d t m w hx hy hl hm
  rw [hv] at hc
  have HC := Lib.hid hc
  clear hc
  go_enter Try.func20, Try.ntmps20
  go_wp2_with fail
  refine HC.out.mono ?_
  rintro e w1 ⟨rfl, rfl⟩
  go_wp2_with fail
  go_ret
  exact ⟨rfl, rfl⟩
set_option maxHeartbeats 800000 in
theorem hasCell_yes (A B : Option Addr) (c d h wd : Nat) (G : Nat → Nat → Int) (M : Nat → Nat → Bool) (i j : Int) (w : World) (hx : Tab IntV w A (mkT h wd G)) (hy : Tab BoolV w B (mkT h wd M)) (gd : Good h wd G) :
    Calls Try.prog 20 #[.slice A h c, .slice B h d, .int .i64 i, .int .i64 j] w fun e w' => e = .returned (.bool (inB i 0 ((h : Int) - 1) && inB j 0 ((wd : Int) - 1))) ∧ w = w' := by
  have h1 := gd.h1
  have h4 := gd.h4
  have w1 := gd.w1
  have w4 := gd.w4
  have hc := implMaskValid_any A B c d _ _ w hx hy (by rw [mkT_len]; unfold maxLen; omega) (by rw [mkT_len]; unfold maxLen; omega)
  rw [mkT_len, mkT_len, maskValid_mk gd] at hc
  have HC := Lib.hid hc
  obtain ⟨b, o, A', c', rfl, hbb, k1, -⟩ := hx.mkrow (i := 0) (by omega)
  simp only [Nat.add_zero] at k1
  have g0 : (0 : Int) < (h : Int) := by omega
  clear hc
  by_cases i0 : 0 ≤ i
  · by_cases i1 : i < (h : Int)
    · by_cases j0 : 0 ≤ j
      · by_cases j1 : j < (wd : Int)
        · rw [inB_yes (by omega) (by omega), inB_yes (by omega) (by omega)]
          go_enter Try.func20, Try.ntmps20
          go_wp2_with fail
          refine HC.out.mono ?_
          rintro e w1 ⟨rfl, rfl⟩
          go_wp2_with fail
          go_ret
          exact ⟨rfl, rfl⟩
        · rw [inB_no (n := j) (by omega), Bool.and_false]
          have j1' : decide (j < (wd : Int)) = false := decide_eq_false j1
          go_enter Try.func20, Try.ntmps20
          go_wp2_with fail
          refine HC.out.mono ?_
          rintro e w1 ⟨rfl, rfl⟩
          go_wp2_with fail
          go_ret
          exact ⟨rfl, rfl⟩
      · rw [inB_no (n := j) (by omega), Bool.and_false]
        have j1' : decide (0 ≤ j) = false := decide_eq_false j0
        go_enter Try.func20, Try.ntmps20
        go_wp2_with fail
        refine HC.out.mono ?_
        rintro e w1 ⟨rfl, rfl⟩
        go_wp2_with fail
        go_ret
        exact ⟨rfl, rfl⟩
    · rw [inB_no (n := i) (by omega), Bool.false_and]
      have j1' : decide (i < (h : Int)) = false := decide_eq_false i1
      go_enter Try.func20, Try.ntmps20
      go_wp2_with fail
      refine HC.out.mono ?_
      rintro e w1 ⟨rfl, rfl⟩
      go_wp2_with fail
      go_ret
      exact ⟨rfl, rfl⟩
  · rw [inB_no (n := i) (by omega), Bool.false_and]
    have j1' : decide (0 ≤ i) = false := decide_eq_false i0
    go_enter Try.func20, Try.ntmps20
    go_wp2_with fail
    refine HC.out.mono ?_
    rintro e w1 ⟨rfl, rfl⟩
    go_wp2_with fail
    go_ret
    exact ⟨rfl, rfl⟩
/-- what BoundHigh answers off its domain -/
def inC (h wd : Nat) (i j : Int) : Bool := inB i 0 ((h : Int) - 1) && inB j 0 ((wd : Int) - 1)
set_option maxHeartbeats 400000 in
theorem implHigh_off (A B : Option Addr) (c d n k : Nat) (i j : Int) (w : World) (hok : Calls Try.prog 20 #[.slice A n c, .slice B k d, .int .i64 i, .int .i64 j] w fun e w' => e = .returned (.bool false) ∧ w = w') :
    Calls Try.prog 11 #[.slice A n c, .slice B k d, .int .i64 i, .int .i64 j] w fun e w' => e = .returned (.int .i64 (-1)) ∧ Below w.heap.size w w' := by
  have HC := Lib.hid hok
  clear hok
  go_enter Try.func11, Try.ntmps11
  go_wp2_with fail
  refine HC.out.mono ?_
  rintro e w1 ⟨rfl, rfl⟩
  go_wp2_with fail
  go_ret
  exact ⟨rfl, Below.refl _ _⟩
set_option maxHeartbeats 2000000 in
theorem implHigh_yes (hsh : ShiftC) (A B : Option Addr) (c d h wd a b : Nat) (G : Nat → Nat → Int) (M : Nat → Nat → Bool) (w : World) (hx : Tab IntV w A (mkT h wd G)) (hy : Tab BoolV w B (mkT h wd M)) (gd : Good h wd G) (ha : a < h) (hb : b < wd) :
    Calls Try.prog 11 #[.slice A h c, .slice B h d, .int .i64 a, .int .i64 b] w fun e w' => ∃ v, e = .returned (.int .i64 v) ∧ IsHigh h wd G M a b v ∧ Below w.heap.size w w' := by
  have h1 := gd.h1
  have h4 := gd.h4
  have w1 := gd.w1
  have w4 := gd.w4
  have hF : 0 ≤ G a b ∧ G a b ≤ 99 := ⟨gd.lo a b, gd.hi a b⟩
  have hc := hasCell_yes A B c d h wd G M a b w hx hy gd
  rw [inB_yes (by omega) (by omega), inB_yes (by omega) (by omega)] at hc
  have HC := Lib.hid hc
  have HX := Lib.hid hx
  have HY := Lib.hid hy
  obtain ⟨tb, tq, tb', tq', c', e1, hb1, k1, hb2, k2, -⟩ := hx.mk ha hb
  obtain ⟨mb, mq, mb', mq', d', e2, hb3, k3, hb4, k4, -⟩ := hy.mk ha hb
  subst e1
  subst e2
  have k2 : w.cell? ⟨tb', tq' + b, none⟩ = some (.int .i64 (G a b)) := k2
  have a1 : (a : Int) < (h : Int) := by omega
  have b1 : (b : Int) < (wd : Int) := by omega
  clear hc hx hy
  go_enter Try.func11, Try.ntmps11
  go_wp2_with fail
  refine HC.out.mono ?_
  rintro e w1 ⟨rfl, rfl⟩
  cases hm : M a b
  · rw [hm] at k4
    go_wp2_with fail
    go_ret
    exact ⟨G a b, rfl, high_told (fun i j => gd.lo i j) (fun X hX => hX.sh a b ha hb hm), Below.refl _ _⟩
  · rw [hm] at k4
    have HM := Lib.hid hm
    clear hm
    go_wp2_with fail
    go_region_with
      (first | (go_at_call 21; refine (hsh _ _ c d h wd a b G M true _ (HX.out.below (below_drewN (Below.refl _ _) 1)) (HY.out.below (below_drewN (Below.refl _ _) 1)) gd ha hb HM.out).mono ?_; rintro e w9 ⟨f, rfl, f0, f1, fh, -, hb9⟩; have hb9' := (below_drewN (Below.refl w.heap.size w) 1).trans (hb9.mono (by simp)); have k19 := (hb9'.cell (p := ⟨tb, tq + a, none⟩) hb1).trans k1; have k29 := (hb9'.cell (p := ⟨tb', tq' + b, none⟩) hb2).trans k2))
    all_goals
      go_wp2_with fail
      go_ret
      exact ⟨_, rfl, by rw [IntWalk.i64_in (G a b + f) (by omega)]; exact fh (by trivial), hb9'⟩
set_option maxHeartbeats 400000 in
theorem implLow_off (A B : Option Addr) (c d n k : Nat) (i j : Int) (w : World) (hok : Calls Try.prog 20 #[.slice A n c, .slice B k d, .int .i64 i, .int .i64 j] w fun e w' => e = .returned (.bool false) ∧ w = w') :
    Calls Try.prog 14 #[.slice A n c, .slice B k d, .int .i64 i, .int .i64 j] w fun e w' => e = .returned (.int .i64 (-1)) ∧ Below w.heap.size w w' := by
  have HC := Lib.hid hok
  clear hok
  go_enter Try.func14, Try.ntmps14
  go_wp2_with fail
  refine HC.out.mono ?_
  rintro e w1 ⟨rfl, rfl⟩
  go_wp2_with fail
  go_ret
  exact ⟨rfl, Below.refl _ _⟩
set_option maxHeartbeats 2000000 in
theorem implLow_yes (hsh : ShiftC) (A B : Option Addr) (c d h wd a b : Nat) (G : Nat → Nat → Int) (M : Nat → Nat → Bool) (w : World) (hx : Tab IntV w A (mkT h wd G)) (hy : Tab BoolV w B (mkT h wd M)) (gd : Good h wd G) (ha : a < h) (hb : b < wd) :
    Calls Try.prog 14 #[.slice A h c, .slice B h d, .int .i64 a, .int .i64 b] w fun e w' => ∃ v, e = .returned (.int .i64 v) ∧ IsLow h wd G M a b v ∧ Below w.heap.size w w' := by
  have h1 := gd.h1
  have h4 := gd.h4
  have w1 := gd.w1
  have w4 := gd.w4
  have hF : 0 ≤ G a b ∧ G a b ≤ 99 := ⟨gd.lo a b, gd.hi a b⟩
  have hc := hasCell_yes A B c d h wd G M a b w hx hy gd
  rw [inB_yes (by omega) (by omega), inB_yes (by omega) (by omega)] at hc
  have HC := Lib.hid hc
  have HX := Lib.hid hx
  have HY := Lib.hid hy
  obtain ⟨tb, tq, tb', tq', c', e1, hb1, k1, hb2, k2, -⟩ := hx.mk ha hb
  obtain ⟨mb, mq, mb', mq', d', e2, hb3, k3, hb4, k4, -⟩ := hy.mk ha hb
  subst e1
  subst e2
  have k2 : w.cell? ⟨tb', tq' + b, none⟩ = some (.int .i64 (G a b)) := k2
  have a1 : (a : Int) < (h : Int) := by omega
  have b1 : (b : Int) < (wd : Int) := by omega
  clear hc hx hy
  go_enter Try.func14, Try.ntmps14
  go_wp2_with fail
  refine HC.out.mono ?_
  rintro e w1 ⟨rfl, rfl⟩
  cases hm : M a b
  · rw [hm] at k4
    go_wp2_with fail
    go_ret
    exact ⟨G a b, rfl, low_told (fun i j => gd.lo i j) (fun X hX => hX.sh a b ha hb hm), Below.refl _ _⟩
  · rw [hm] at k4
    have HM := Lib.hid hm
    clear hm
    go_wp2_with fail
    go_region_with
      (first | (go_at_call 21; refine (hsh _ _ c d h wd a b G M false _ (HX.out.below (below_drewN (Below.refl _ _) 1)) (HY.out.below (below_drewN (Below.refl _ _) 1)) gd ha hb HM.out).mono ?_; rintro e w9 ⟨f, rfl, f0, f1, -, fl, hb9⟩; have wm := IntWalk.i64_in (G a b - f) (by omega); have hb9' := (below_drewN (Below.refl w.heap.size w) 1).trans (hb9.mono (by simp)); have k19 := (hb9'.cell (p := ⟨tb, tq + a, none⟩) hb1).trans k1; have k29 := (hb9'.cell (p := ⟨tb', tq' + b, none⟩) hb2).trans k2))
    all_goals go_wp2_with fail
    all_goals
      go_ret
      have fl' := fl (by trivial)
      first
        | exact ⟨_, rfl, by rwa [Int.max_eq_right (by omega)] at fl', hb9'⟩
        | exact ⟨_, rfl, by rwa [Int.max_eq_left (by omega)] at fl', hb9'⟩
        | exact ⟨_, rfl, by rw [wm]; rwa [Int.max_eq_right (by omega)] at fl', hb9'⟩
end Go.Proofs.Ythknlonelbfpaaa
