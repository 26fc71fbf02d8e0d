/- The contract of slices.Clone at lists of integers. -/
import Derived.Test.YtncnghmadeghlaaLst
import Derived.Test.YtncnghmadeghlaaInfo
import Derived.WalkSpells
namespace Go.Proofs.Ytncnghmadeghlaa
open Go.RowKit
set_option linter.unusedVariables false
set_option maxHeartbeats 400000 in
theorem cloneI_any (ad : Addr) (c : Nat) (xs : List Int) (w : World) (hx : Lst IntV w (some ad) c xs) (hl : xs.length ≤ 1048576) :
    Calls Try.prog 82 #[.slice (some ad) xs.length c] w (Made IntV 3 w xs) := by
  have q22 : ∀ (w : World) (a : Option Addr) (n c n' c' : Nat), (binOp .eql 42 (.slice a n c) (.slice none n' c')).run Try.prog w = .ok (.bool a.isNone) w := fun w a n c n' c' => Lib.run_eql_slice_nil w _ _ a n c n' c' Try.underlying42
  have HL := Lib.hid hx
  clear hx
  go_enter Try.func82, Try.ntmps82
  go_wp2_with (at_builtin; refine appFresh (f := IntV) (.tmp 5) (.tmp 6) _ rfl (by rfl) w 3 (.int .i64 0) 8 Try.underlying42 nfoI rfl rfl (some ad) _ c xs rfl rfl HL.out (fun _ => rfl) (by omega) (by omega) ?_)
  intro A2 c2 ys w2 HY ho2 hb2
  go_wp2_with fail
  go_ret
  have hy := HY.out
  subst hy
  exact ⟨A2, c2, rfl, ho2, hb2⟩
end Go.Proofs.Ytncnghmadeghlaa
