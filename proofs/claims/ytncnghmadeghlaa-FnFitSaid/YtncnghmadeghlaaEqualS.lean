/- The contract of slices.Equal at lists of integers. -/
import Derived.Test.YtncnghmadeghlaaEqInts
import Derived.Test.YtncnghmadeghlaaMadeT
import Derived.Test.YtncnghmadeghlaaRows
import Derived.Outline
import Derived.Deep.QuietTactic
import Derived.BigQuiet
namespace Go.Proofs.Ytncnghmadeghlaa
open Go.RowKit
set_option linter.unusedVariables false
set_option maxHeartbeats 400000 in
theorem equalS_any (A B : Option Addr) (c d : Nat) (xs ys : List Int) (w : World) (hx : Seq IntV w A xs) (hy : Seq IntV w B ys) (hl : xs.length ≤ maxLen) :
    Calls Try.prog 75 #[.slice A xs.length c, .slice B ys.length d] w fun e w' => e = .returned (.bool (eqInts xs ys)) ∧ Qu w w' := by
  unfold maxLen at hl
  by_cases hn : xs.length = ys.length
  · have hne : ((xs.length : Int) != (ys.length : Int)) = false := by simp [hn]
    have HN := Lib.hid hn
    clear hn
    go_enter Try.func75, Try.ntmps75
    go_wp2
    go_loopw [13] (fun i wr => ∃ k q : Nat, k ≤ xs.length ∧ i = .int .i64 k ∧ Hid (xs.take k = ys.take k) ∧ wr = w.drewN q) (fun i _ => xs.length - (intOf i).toNat)
    case atStart => exact ⟨0, 0, Nat.zero_le _, rfl, Lib.hid rfl, rfl⟩
    case round =>
      obtain ⟨k, q, hk, rfl, HP, rfl⟩ := hrel
      by_cases hlt : k < xs.length
      · obtain ⟨b, o, x, rfl, hb, hxk, hc⟩ := hx.at_ hlt
        have hlt' : k < ys.length := by have := HN.out; omega
        obtain ⟨b', o', y, rfl, hb', hyk, hc'⟩ := hy.at_ hlt'
        have HX := Lib.hid hxk
        have HY := Lib.hid hyk
        clear hxk hyk
        by_cases h1 : x = y
        · have h2 : (x != y) = false := by simp [h1]
          have H1 := Lib.hid h1
          clear h1
          go_wp2
          go_quiet (fail)
          go_wp2
          go_roundw
          case rel => exact ⟨k + 1, _, by omega, by go_num, Lib.hid (eqInts_step HX.out HY.out HP.out H1.out), rfl⟩
          case measure => simp [intOf]; omega
        · have h2 : (x != y) = true := by simp [h1]
          go_wp2
          go_quiet (fail)
          go_wp2
          go_ret
          exact ⟨ret_bool (eqInts_bad HX.out HY.out h1).symm, (Qu.of _ _).drewN _⟩
      · go_wp2
        go_ret
        exact ⟨ret_bool (eqInts_end HN.out hlt HP.out).symm, Qu.of _ _⟩
  · have hne : ((xs.length : Int) != (ys.length : Int)) = true := by simp; omega
    go_enter Try.func75, Try.ntmps75
    go_wp2
    go_ret
    exact ⟨ret_bool (eqInts_len hn).symm, Qu.refl _⟩

end Go.Proofs.Ytncnghmadeghlaa
