/- The contract of sameMask for two masks of one rectangle. -/
import Derived.Test.YtkneddahefhedaaMasks
namespace Go.Proofs.Ytkneddahefhedaa
open Go.RowKit
set_option linter.unusedVariables false
set_option maxHeartbeats 400000 in
theorem sameMask_same (A B : Option Addr) (c d h wd : Nat) (M : Nat → Nat → Bool) (w : World) (hx : Tab BoolV w A (mkT h wd M)) (hy : Tab BoolV w B (mkT h wd M)) (h4 : h ≤ 4) (w4 : wd ≤ 4) :
    Calls Try.prog 26 #[.slice A h c, .slice B h d] w fun e w' => e = .returned (.bool true) ∧ Qu w w' := by
  have hne : ((h : Int) != (h : Int)) = false := by simp
  have hne2 : ((wd : Int) != (wd : Int)) = false := by simp
  go_enter Try.func26, Try.ntmps26
  go_wp2_with fail
  go_loopw [5] (fun i wr => ∃ a : Nat, a ≤ h ∧ i = .int .i64 a ∧ Hid (Qu w wr)) (fun i _ => h - (intOf i).toNat)
  case atStart => exact ⟨0, Nat.zero_le _, rfl, Lib.hid (Qu.refl _)⟩
  case round =>
    obtain ⟨i, hi', rfl, HQ⟩ := hrel
    obtain ⟨wo, rfl⟩ : ∃ wo : World, wo = wr := ⟨_, rfl⟩
    by_cases hi : i < h
    · obtain ⟨b, o, A', c', rfl, hbb, k1, -⟩ := (hx.below HQ.out.below).mkrow hi
      obtain ⟨b2, o2, B', d', rfl, hbb2, k2, -⟩ := (hy.below HQ.out.below).mkrow hi
      have g1 : (i : Int) < (h : Int) := by omega
      go_wp2_with fail
      go_quiet (fail)
      obtain ⟨w9, hw9⟩ : ∃ w9 : World, w9 = wo.drewN nq := ⟨_, rfl⟩
      have HQ9 : Hid (Qu w w9) := Lib.hid (by rw [hw9]; exact HQ.out.drewN nq)
      rw [← hw9]
      clear hw9 k1 k2 HQ
      go_wp2_with fail
      go_loopw [6] (fun v wr => ∃ m : Nat, m ≤ wd ∧ v = .int .i64 m ∧ Hid (Qu w wr)) (fun v _ => wd - (intOf v).toNat)
      case atStart => exact ⟨0, Nat.zero_le _, rfl, HQ9⟩
      case round =>
        clear HQ9
        obtain ⟨j, hj', rfl, HQ⟩ := hrel
        obtain ⟨W, rfl⟩ : ∃ W : World, W = wr := ⟨_, rfl⟩
        by_cases hj : j < wd
        · obtain ⟨e, f, e', f', c1, hA, hee, k1, hee', k2, -⟩ := (hx.below HQ.out.below).mk hi hj
          obtain ⟨rfl, rfl⟩ : e = b ∧ f = o := by injection hA with hA; injection hA with e1 e2; exact ⟨e1.symm, e2.symm⟩
          obtain ⟨p, q, p', q', c2, hA2, hpp, k3, hpp', k4, -⟩ := (hy.below HQ.out.below).mk hi hj
          obtain ⟨rfl, rfl⟩ : p = b2 ∧ q = o2 := by injection hA2 with hA2; injection hA2 with e1 e2; exact ⟨e1.symm, e2.symm⟩
          have g2 : (j : Int) < (wd : Int) := by omega
          obtain ⟨v, hv⟩ : ∃ v, M i j = v := ⟨_, rfl⟩
          rw [hv] at k2 k4
          have vv : (v != v) = false := by simp
          clear hA hA2 hv
          go_wp2_with fail
          go_quiet (fail)
          go_wp2_with fail
          go_roundw
          case rel => exact ⟨j + 1, by omega, by go_num, Lib.hid (HQ.out.drewN _)⟩
          case measure => simp [intOf]; omega
        · obtain rfl : j = wd := by omega
          obtain ⟨e, f, A'', c'', hA, hee, k1, -⟩ := (hx.below HQ.out.below).mkrow hi
          obtain ⟨rfl, rfl⟩ : e = b ∧ f = o := by injection hA with hA; injection hA with e1 e2; exact ⟨e1.symm, e2.symm⟩
          clear hA
          go_wp2_with fail
          go_roundw
          case rel => exact ⟨i + 1, by omega, by go_num, HQ⟩
          case measure => simp [intOf]; omega
    · go_wp2_with fail
      go_ret
      exact ⟨rfl, HQ.out⟩
set_option maxHeartbeats 400000 in
theorem sameMask_nil (A B : Option Addr) (c d : Nat) (w : World) :
    Calls Try.prog 26 #[.slice A 0 c, .slice B 0 d] w fun e w' => e = .returned (.bool true) ∧ w = w' := by
  go_enter Try.func26, Try.ntmps26
  go_wp2_with fail
  go_loop [5] (fun i => i = .int .i64 0) (fun _ => 0)
  case atStart => exact rfl
  case round =>
    obtain rfl := hrel
    go_wp2_with fail
    go_ret
    exact ⟨rfl, rfl⟩
end Go.Proofs.Ytkneddahefhedaa
