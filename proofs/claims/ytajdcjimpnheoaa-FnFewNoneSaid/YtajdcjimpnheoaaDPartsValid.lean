/- What every draw of contributions leaves, and DrawPartsValid. -/
import Derived.Test.YtajdcjimpnheoaaDrawParts
import Derived.Test.YtajdcjimpnheoaaLst
namespace Go.Proofs.Ytajdcjimpnheoaa
open Go.RowKit
set_option linter.unusedVariables false
set_option maxHeartbeats 400000 in
theorem drawPartsValid_any (A : Option Addr) (c : Nat) (bs : List Int) (w : World) (hs : Seq ByteV w A bs) (hl : bs.length ≤ maxLen) (hc : bs.length ≤ c) (hc' : c ≤ maxLen) (hby : ∀ b ∈ bs, 0 ≤ b ∧ b ≤ 255) :
    Calls Try.prog 27 #[.slice A bs.length c] w (DrewList w) := by
  go_enter Try.func27, Try.ntmps27
  go_wp2_with fail
  refine (l6Open_any A c bs _ hs hl hc hc' hby).mono ?_
  rintro e w1 ⟨rfl, hr, hb, hz⟩
  go_wp2_with fail
  refine (l92Parts_any _ _ 0 _ hr hz (by omega)).mono ?_
  rintro e w2 hd
  obtain ⟨A1, c1, xs, p1, rfl, ho, hr2, hd, hb2⟩ := drew_parts hb hz hd
  go_wp2_with fail
  go_ret
  exact ⟨A1, c1, xs, rfl, Lst.of_own ho, hd, hb2⟩
end Go.Proofs.Ytajdcjimpnheoaa
