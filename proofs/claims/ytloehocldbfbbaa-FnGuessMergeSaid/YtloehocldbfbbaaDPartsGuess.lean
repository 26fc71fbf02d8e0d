/- DrawPartsGuess: a list and a number from -1 to 101. -/
import Derived.Test.YtloehocldbfbbaaDPercent
namespace Go.Proofs.Ytloehocldbfbbaa
open Go.RowKit
set_option linter.unusedVariables false
/-- a list and a number are drawn -/
def DrewGuess (w : World) (e : Ending) (w' : World) : Prop :=
  ∃ A c xs, ∃ p : Int, e = .returned (.tuple #[.slice A (xs : List Int).length c, .int .i64 p]) ∧ Lst IntV w' A c xs ∧ Drawn xs ∧ (-1 ≤ p ∧ p ≤ 101) ∧ Below w.heap.size w w'
set_option maxHeartbeats 400000 in
theorem drawPartsGuess_any (A : Option Addr) (c : Nat) (bs : List Int) (w : World) (hs : Seq ByteV w A bs) (hl : bs.length ≤ maxLen) (hc : bs.length ≤ c) (hc' : c ≤ maxLen) (hby : ∀ b ∈ bs, 0 ≤ b ∧ b ≤ 255) :
    Calls Try.prog 12 #[.slice A bs.length c] w (DrewGuess w) := by
  go_enter Try.func12, Try.ntmps12
  go_wp2_with fail
  refine (l6Open_any A c bs _ hs hl hc hc' hby).mono ?_
  rintro e w1 ⟨rfl, hr, hb, hz⟩
  go_wp2_with fail
  refine (l92Parts_any _ _ 0 _ hr hz (by omega)).mono ?_
  rintro e w2 hd
  obtain ⟨A1, c1, xs, p1, rfl, ho, hr2, hd, hb2⟩ := drew_parts hb hz hd
  have hp1 := hr2.2.1
  clear hb hs
  go_wp2_with fail
  refine (l92Percent_any _ _ p1 _ hr2.1 hr2.2.2 (by omega)).mono ?_
  rintro e w7 hp
  obtain ⟨k4, p4, rfl, hk4, ho7, hr7, hb7⟩ := drewNum_parts ho ⟨by omega, hr2.2.2⟩ hb2 hp
  clear ho hr2 hb2 hp
  go_wp2_with fail
  go_ret2
  exact ⟨A1, c1, xs, _, rfl, Lst.of_own ho7, hd, hk4, hb7⟩
end Go.Proofs.Ytloehocldbfbbaa
