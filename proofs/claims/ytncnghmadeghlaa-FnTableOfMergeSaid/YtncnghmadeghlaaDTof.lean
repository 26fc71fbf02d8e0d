/- DrawTableOf: persons are drawn from a code. -/
import Derived.Test.YtncnghmadeghlaaDPeo
import Derived.Test.YtncnghmadeghlaaDOpen
namespace Go.Proofs.Ytncnghmadeghlaa
open Go.RowKit
set_option linter.unusedVariables false
def DrewPeo (w : World) (e : Ending) (w' : World) : Prop :=
  ∃ A c ps, e = .returned (.slice A (ps : List Per).length c) ∧ ps.length ≤ 12 ∧ OwnP w' w.heap.size A ps.length c ps ∧ Below w.heap.size w w'
set_option maxHeartbeats 1000000 in
theorem drawTableOf_any (A : Option Addr) (c : Nat) (bs : List Int) (w : World) (hs : Seq ByteV w A bs) (hl : bs.length ≤ maxLen) (hc : bs.length ≤ c) (hc' : c ≤ maxLen) (hby : ∀ b ∈ bs, 0 ≤ b ∧ b ≤ 255) :
    Calls Try.prog 28 #[.slice A bs.length c] w (DrewPeo w) := by
  go_enter Try.func28, Try.ntmps28
  go_wp2_with fail
  refine (l6Open_any A c bs _ hs hl hc hc' hby).mono ?_
  rintro e w1 ⟨rfl, hr, hb, hz⟩
  go_wp2_with fail
  refine (l91People_any _ _ 0 _ hr hz (by omega)).mono ?_
  rintro e w2 ⟨A1, c1, ps, p1, rfl, hlen, ho, hr2, hp1, hg⟩
  have hb2 : Below w.heap.size w w2 := hb.trans (grow_below hg hb.size (Nat.le_refl _))
  go_wp2_with fail
  go_ret
  exact ⟨A1, c1, ps, rfl, hlen, ho.lower (by omega), hb2⟩
end Go.Proofs.Ytncnghmadeghlaa
