/- DrawPartsSpare: as DrawPartsGuess. -/
import Derived.Test.YtloehocldbfbbaaDPartsGuess
namespace Go.Proofs.Ytloehocldbfbbaa
open Go.RowKit
set_option linter.unusedVariables false
set_option maxHeartbeats 400000 in
theorem drawPartsSpare_any (A : Option Addr) (c : Nat) (bs : List Int) (w : World) (hs : Seq ByteV w A bs) (hl : bs.length ≤ maxLen) (hc : bs.length ≤ c) (hc' : c ≤ maxLen) (hby : ∀ b ∈ bs, 0 ≤ b ∧ b ≤ 255) :
    Calls Try.prog 20 #[.slice A bs.length c] w (DrewGuess w) := by
  go_enter Try.func20, Try.ntmps20
  go_wp2_with fail
  refine (drawPartsGuess_any A c bs _ hs hl hc hc' hby).mono ?_
  rintro e w1 ⟨A1, c1, xs, p, rfl, h1, h2, h3, h4⟩
  go_wp2_with fail
  go_ret2
  exact ⟨A1, c1, xs, p, rfl, h1, h2, h3, h4⟩
end Go.Proofs.Ytloehocldbfbbaa
