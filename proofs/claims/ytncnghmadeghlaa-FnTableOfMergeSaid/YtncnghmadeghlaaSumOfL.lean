/- The contract of sumOf. -/
import Derived.Test.YtncnghmadeghlaaSumL
import Derived.Test.YtncnghmadeghlaaRows
import Derived.Outline
import Derived.Deep.QuietTactic
import Derived.BigQuiet
namespace Go.Proofs.Ytncnghmadeghlaa
open Go.RowKit
set_option linter.unusedVariables false
set_option maxHeartbeats 400000 in
theorem sumOf_any (A : Option Addr) (c : Nat) (xs : List Int) (w : World) (hx : Lst IntV w A c xs) (hl : xs.length ≤ 100) (hM : ∀ x ∈ xs, -1000000 ≤ x ∧ x ≤ 1000000) :
    Calls Try.prog 33 #[.slice A xs.length c] w fun e w' => e = .returned (.int .i64 xs.sum) ∧ w = w' := by
  have HM := Lib.hid hM
  have HX := Lib.hid hx
  clear hM hx
  go_enter Try.func33, Try.ntmps33
  go_wp2_with fail
  go_loop [3, 4] (fun s i => ∃ k : Nat, k ≤ xs.length ∧ i = .int .i64 k ∧ s = .int .i64 (xs.take k).sum) (fun _ i => xs.length - (intOf i).toNat)
  case atStart => exact ⟨0, Nat.zero_le _, rfl, rfl⟩
  case round =>
    obtain ⟨k, hk, rfl, rfl⟩ := hrel
    have hp := sum_part hl HM.out k
    have hp0 := hp.1
    have hp1 := hp.2
    clear hp
    by_cases hlt : k < xs.length
    · obtain ⟨b, o, x, rfl, hb, hxk, hc⟩ := HX.out.1.at_ hlt
      have hm := HM.out x (List.mem_of_getElem? hxk)
      have hm0 := hm.1
      have hm1 := hm.2
      have HS := Lib.hid (sum_take hxk)
      clear hxk hm
      go_wp2_with fail
      go_round
      case rel => exact ⟨k + 1, by omega, by go_num, by rw [HS.out]⟩
      case measure => simp [intOf]; omega
    · go_wp2_with fail
      go_ret
      exact ⟨ret_int (by rw [List.take_of_length_le (by omega)]), rfl⟩

end Go.Proofs.Ytncnghmadeghlaa
