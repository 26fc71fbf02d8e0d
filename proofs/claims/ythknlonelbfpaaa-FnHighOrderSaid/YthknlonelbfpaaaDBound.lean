/- DrawBoundHigh: some table, some mask and some cell. -/
import Derived.Test.YthknlonelbfpaaaDHidd
namespace Go.Proofs.Ythknlonelbfpaaa
open Go.RowKit
set_option linter.unusedVariables false
/-- a table, a mask and a cell are drawn -/
def DrewB (w : World) (e : Ending) (w' : World) : Prop :=
  ∃ A c t A2 c2 m, ∃ i j : Int, e = .returned (.tuple #[.slice A (t : List (List Int)).length c, .slice A2 (m : List (List Bool)).length c2, .int .i64 i, .int .i64 j]) ∧ ((t.length ≤ c ∧ c ≤ maxLen) ∧ (m.length ≤ c2 ∧ c2 ≤ maxLen)) ∧ Tab IntV w' A t ∧ Tab BoolV w' A2 m ∧ Short t ∧ m.length ≤ 5 ∧ (0 ≤ i ∧ i ≤ 4) ∧ (-1 ≤ j ∧ j ≤ 5) ∧ Below w.heap.size w w'
set_option maxHeartbeats 400000 in
theorem drawBoundHigh_any (A : Option Addr) (c : Nat) (bs : List Int) (w : World) (hs : Seq ByteV w A bs) (hl : bs.length ≤ maxLen) (hc : bs.length ≤ c) (hc' : c ≤ maxLen) (hby : ∀ b ∈ bs, 0 ≤ b ∧ b ≤ 255) :
    Calls Try.prog 10 #[.slice A bs.length c] w (DrewB w) := by
  go_enter Try.func10, Try.ntmps10
  go_wp2_with fail
  refine (l6Open_any A c bs _ hs hl hc hc' hby).mono ?_
  rintro e w1 ⟨rfl, hr, hb, hz⟩
  go_wp2_with fail
  refine (l92Hidden_any _ _ 0 _ hr hz (by omega)).mono ?_
  rintro e w2 ⟨A1, c1, t, A2, c2, m, i, j, p1, rfl, hc1, hT, hsh, hm, hi, hj, hr2, hp1, hg⟩
  have hb2 : Below w.heap.size w w2 := hb.trans (grow_below hg hb.size (Nat.le_refl _))
  have hT2 := hT w2 (World.grownBy.refl _ _)
  clear hb hs hr hg hT hr2
  go_wp2_with fail
  refine bodyPost_ret (results_four rfl _ _ _) rfl ?_
  exact ⟨A1, c1, t, A2, c2, m, i, j, rfl, hc1, hT2.1, hT2.2, hsh, hm, hi, hj, hb2⟩
end Go.Proofs.Ythknlonelbfpaaa
