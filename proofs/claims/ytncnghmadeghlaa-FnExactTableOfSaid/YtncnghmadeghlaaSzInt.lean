/- Contracts of szIntS and szIntSS: how much of a bound is left. -/
import Derived.Test.YtncnghmadeghlaaSzW
import Derived.Test.YtncnghmadeghlaaRows
import Derived.Outline
import Derived.Deep.QuietTactic
import Derived.BigQuiet
namespace Go.Proofs.Ytncnghmadeghlaa
open Go.RowKit
set_option linter.unusedVariables false
set_option maxHeartbeats 400000 in
theorem szIntS_any (A : Option Addr) (n c : Nat) (l : Int) (w : World) (hn : (n : Int) ≤ 9223372036854775807) (h0 : 0 ≤ l) (h1 : l ≤ 1048576) :
    Calls Try.prog 53 #[.slice A n c, .int .i64 l] w fun e w' => e = .returned (.int .i64 (szRow n l)) ∧ w = w' := by
  by_cases h : l - (n : Int) < 0
  · go_enter Try.func53, Try.ntmps53
    go_wp2
    go_ret
    exact ⟨ret_int (by rw [szRow, if_pos (by omega)]), rfl⟩
  · go_enter Try.func53, Try.ntmps53
    go_wp2
    go_ret
    exact ⟨ret_int (by rw [szRow, if_neg (by omega)]), rfl⟩
set_option maxHeartbeats 400000 in
theorem szIntSS_any (A : Option Addr) (c : Nat) (t : List (List Int)) (l : Int) (w : World) (hx : Tab IntV w A t) (hl : t.length ≤ maxLen) (h0 : 0 ≤ l) (h1 : l ≤ 1048576) :
    Calls Try.prog 24 #[.slice A t.length c, .int .i64 l] w fun e w' => e = .returned (.int .i64 (szT t l)) ∧ w = w' := by
  unfold maxLen at hl
  by_cases h : l - (t.length : Int) < 0
  · go_enter Try.func24, Try.ntmps24
    go_wp2_with fail
    go_ret
    exact ⟨ret_int (by rw [szT, if_pos (by omega)]), rfl⟩
  · go_enter Try.func24, Try.ntmps24
    go_wp2_with fail
    go_loop [1, 5] (fun v i => ∃ (k : Nat) (m : Int), k ≤ t.length ∧ i = .int .i64 k ∧ v = .int .i64 m ∧ 0 ≤ m ∧ m ≤ 1048576 ∧ Hid (szT t l = szGo (t.drop k) m)) (fun _ i => t.length - (intOf i).toNat)
    case atStart => exact ⟨0, _, Nat.zero_le _, rfl, rfl, by omega, by omega, Lib.hid (by rw [szT, if_neg (by omega)]; simp)⟩
    case round =>
      obtain ⟨k, m, hk, rfl, rfl, m0, m1, HS⟩ := hrel
      by_cases hlt : k < t.length
      · obtain ⟨b, o, r, Ar, cr, rfl, hb, hr, hc, hL⟩ := hx.at_ hlt
        have hrl : (r.length : Int) ≤ 9223372036854775807 := by have h1 := hL.2.1; have h2 := hL.2.2.1; unfold maxLen at h2; omega
        have HR := Lib.hid hr
        clear hr hL
        by_cases hz : szRow r.length m < 0
        · go_wp2_with fail
          refine (szIntS_any Ar r.length cr m _ hrl m0 m1).mono ?_
          rintro e w' ⟨rfl, rfl⟩
          go_wp2_with fail
          go_ret
          exact ⟨ret_int (by rw [HS.out, drop_cons HR.out, szGo, if_pos hz]), rfl⟩
        · have hz1 := szRow_le r.length m0
          go_wp2_with fail
          refine (szIntS_any Ar r.length cr m _ hrl m0 m1).mono ?_
          rintro e w' ⟨rfl, rfl⟩
          go_wp2_with fail
          go_round
          case rel => exact ⟨k + 1, _, by omega, by go_num, rfl, by omega, by omega, Lib.hid (by rw [HS.out, drop_cons HR.out, szGo, if_neg (by omega)])⟩
          case measure => simp [intOf]; omega
      · go_wp2_with fail
        go_ret
        exact ⟨ret_int (by rw [HS.out, List.drop_eq_nil_of_le (by omega)]; rfl), rfl⟩
end Go.Proofs.Ytncnghmadeghlaa
