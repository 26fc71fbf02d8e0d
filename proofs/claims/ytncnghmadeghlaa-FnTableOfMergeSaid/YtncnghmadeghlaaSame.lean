/- Contracts of sameInts and sameRows. -/
import Derived.Test.YtncnghmadeghlaaEqInts
import Derived.Test.YtncnghmadeghlaaMadeT
import Derived.Test.YtncnghmadeghlaaRows
import Derived.Outline
import Derived.Deep.QuietTactic
import Derived.BigQuiet
namespace Go.Proofs.Ytncnghmadeghlaa
open Go.RowKit
set_option linter.unusedVariables false
set_option maxHeartbeats 400000 in
theorem sameInts_any (A B : Option Addr) (c d : Nat) (xs ys : List Int) (w : World) (hx : Seq IntV w A xs) (hy : Seq IntV w B ys) (hl : xs.length ≤ maxLen) :
    Calls Try.prog 35 #[.slice A xs.length c, .slice B ys.length d] w fun e w' => e = .returned (.bool (eqInts xs ys)) ∧ Qu w w' := by
  unfold maxLen at hl
  by_cases hn : xs.length = ys.length
  · have hne : ((xs.length : Int) != (ys.length : Int)) = false := by simp [hn]
    have HN := Lib.hid hn
    clear hn
    go_enter Try.func35, Try.ntmps35
    go_wp2
    go_loopw [5] (fun i wr => ∃ k q : Nat, k ≤ xs.length ∧ i = .int .i64 k ∧ Hid (xs.take k = ys.take k) ∧ wr = w.drewN q) (fun i _ => xs.length - (intOf i).toNat)
    case atStart => exact ⟨0, 0, Nat.zero_le _, rfl, Lib.hid rfl, rfl⟩
    case round =>
      obtain ⟨k, q, hk, rfl, HP, rfl⟩ := hrel
      by_cases hlt : k < xs.length
      · obtain ⟨b, o, x, rfl, hb, hxk, hc⟩ := hx.at_ hlt
        have hlt' : k < ys.length := by have := HN.out; omega
        obtain ⟨b', o', y, rfl, hb', hyk, hc'⟩ := hy.at_ hlt'
        have HX := Lib.hid hxk
        have HY := Lib.hid hyk
        clear hxk hyk
        by_cases h1 : x = y
        · have h2 : (x != y) = false := by simp [h1]
          have H1 := Lib.hid h1
          clear h1
          go_wp2
          go_quiet (fail)
          go_wp2
          go_roundw
          case rel => exact ⟨k + 1, _, by omega, by go_num, Lib.hid (eqInts_step HX.out HY.out HP.out H1.out), rfl⟩
          case measure => simp [intOf]; omega
        · have h2 : (x != y) = true := by simp [h1]
          go_wp2
          go_quiet (fail)
          go_wp2
          go_ret
          exact ⟨ret_bool (eqInts_bad HX.out HY.out h1).symm, (Qu.of _ _).drewN _⟩
      · go_wp2
        go_ret
        exact ⟨ret_bool (eqInts_end HN.out hlt HP.out).symm, Qu.of _ _⟩
  · have hne : ((xs.length : Int) != (ys.length : Int)) = true := by simp; omega
    go_enter Try.func35, Try.ntmps35
    go_wp2
    go_ret
    exact ⟨ret_bool (eqInts_len hn).symm, Qu.refl _⟩

set_option maxHeartbeats 400000 in
theorem sameRows_any (A B : Option Addr) (c d : Nat) (t s : List (List Int)) (w : World) (hx : Tab IntV w A t) (hy : Tab IntV w B s) (hl : t.length ≤ maxLen) :
    Calls Try.prog 29 #[.slice A t.length c, .slice B s.length d] w fun e w' => e = .returned (.bool (eqT t s)) ∧ Qu w w' := by
  unfold maxLen at hl
  by_cases hn : t.length = s.length
  · have hne : ((t.length : Int) != (s.length : Int)) = false := by simp [hn]
    have HN := Lib.hid hn
    clear hn
    go_enter Try.func29, Try.ntmps29
    go_wp2_with fail
    go_loopw [5] (fun i wr => ∃ k : Nat, k ≤ t.length ∧ i = .int .i64 k ∧ Hid (t.take k = s.take k) ∧ Hid (Qu w wr)) (fun i _ => t.length - (intOf i).toNat)
    case atStart => exact ⟨0, Nat.zero_le _, rfl, Lib.hid rfl, Lib.hid (Qu.refl _)⟩
    case round =>
      obtain ⟨k, hk, rfl, HP, HQ⟩ := hrel
      by_cases hlt : k < t.length
      · obtain ⟨b, o, x, Ax, cx, rfl, hb, hxk, hc, hLx⟩ := (hx.below HQ.out.below).at_ hlt
        have hlt' : k < s.length := by have := HN.out; omega
        obtain ⟨b', o', y, Ay, cy, rfl, hb', hyk, hc', hLy⟩ := (hy.below HQ.out.below).at_ hlt'
        have g1 : (k : Int) < (t.length : Int) := by omega
        have g2 : (k : Int) < (s.length : Int) := by omega
        have HX := Lib.hid hxk
        have HY := Lib.hid hyk
        have HCX := Lib.hid hLx
        have HCY := Lib.hid hLy
        have hml : x.length ≤ maxLen := by have h1 := hLx.2.1; have h2 := hLx.2.2.1; omega
        have HM := Lib.hid hml
        have hcall : ∀ m : Nat, Calls Try.prog 35 #[.slice Ax x.length cx, .slice Ay y.length cy] (wr.drewN m) fun e w' => e = .returned (.bool (eqInts x y)) ∧ ∃ n, w' = (wr.drewN m).drewN n := fun m =>
          (sameInts_any Ax Ay cx cy x y (wr.drewN m) (HCX.out.1.drewN m) (HCY.out.1.drewN m) HM.out).mono fun e w' ⟨h1, n, h2⟩ => ⟨h1, n, h2⟩
        have HC := Lib.hid hcall
        clear hxk hyk hLx hLy hml hcall
        by_cases hxy : x = y
        · have h1 : eqInts x y = true := by simp [eqInts, hxy]
          have HXY := Lib.hid hxy
          clear hxy
          go_wp2_with fail
          go_quiet ((go_at_call 35; exact Calls.quiet_of (HC.out _)))
          go_wp2_with fail
          go_roundw
          case rel => exact ⟨k + 1, by omega, by go_num, Lib.hid (eqT_step HX.out HY.out HP.out HXY.out), Lib.hid (HQ.out.drewN _)⟩
          case measure => simp [intOf]; omega
        · have h1 : eqInts x y = false := by simp [eqInts, hxy]
          go_wp2_with fail
          go_quiet ((go_at_call 35; exact Calls.quiet_of (HC.out _)))
          go_wp2_with fail
          go_ret
          exact ⟨ret_bool (eqT_bad HX.out HY.out hxy).symm, HQ.out.drewN _⟩
      · go_wp2_with fail
        go_ret
        exact ⟨ret_bool (eqT_end HN.out hlt HP.out).symm, HQ.out⟩
  · have hne : ((t.length : Int) != (s.length : Int)) = true := by simp; omega
    go_enter Try.func29, Try.ntmps29
    go_wp2_with fail
    go_ret
    exact ⟨ret_bool (eqT_len hn).symm, Qu.refl _⟩
end Go.Proofs.Ytncnghmadeghlaa
