/- DrawPartsFew: a list and a number from 2 to 6. -/
import Derived.Test.YtapmpggohcmljaaDrawParts
import Derived.WalkLawsBesides
namespace Go.Proofs.Ytapmpggohcmljaa
open Go.RowKit
set_option linter.unusedVariables false
/-- a list and a number are drawn -/
def DrewFew (w : World) (e : Ending) (w' : World) : Prop :=
  ∃ A c xs, ∃ n : Int, e = .returned (.tuple #[.slice A (xs : List Int).length c, .int .i64 n]) ∧ Lst IntV w' A c xs ∧ Drawn xs ∧ (2 ≤ n ∧ n ≤ 6) ∧ Below w.heap.size w w'
set_option maxHeartbeats 400000 in
theorem drawPartsFew_any (A : Option Addr) (c : Nat) (bs : List Int) (w : World) (hs : Seq ByteV w A bs) (hl : bs.length ≤ maxLen) (hc : bs.length ≤ c) (hc' : c ≤ maxLen) (hby : ∀ b ∈ bs, 0 ≤ b ∧ b ≤ 255) :
    Calls Try.prog 15 #[.slice A bs.length c] w (DrewFew w) := by
  go_enter Try.func15, Try.ntmps15
  go_wp2_with fail
  refine (l6Open_any A c bs _ hs hl hc hc' hby).mono ?_
  rintro e w1 ⟨rfl, hr, hb, hz⟩
  go_wp2_with fail
  refine (l92Parts_any _ _ 0 _ hr hz (by omega)).mono ?_
  rintro e w2 hd
  obtain ⟨A1, c1, xs, p1, rfl, ho, hr2, hd, hb2⟩ := drew_parts hb hz hd
  clear hb hs
  go_wp2_with fail
  refine (pick_int _ _ p1 5 _ hr2.1 (by omega) (by omega) (by omega)).mono ?_
  rintro e w3 hp
  obtain ⟨k, rfl, hk, ho3, hr3, hb3⟩ := picked_parts ho ⟨hr2.1, by omega, hr2.2.2⟩ hb2 hp
  clear ho hr2 hb2 hr hp
  go_wp2_with fail
  go_ret2
  exact ⟨A1, c1, xs, _, rfl, Lst.of_own ho3, hd, by omega, hb3⟩
end Go.Proofs.Ytapmpggohcmljaa
