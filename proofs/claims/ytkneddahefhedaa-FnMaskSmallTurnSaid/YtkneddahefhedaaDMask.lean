/- DrawMaskSmall: some short table and a number below 7. -/
import Derived.Test.YtkneddahefhedaaDTabs
namespace Go.Proofs.Ytkneddahefhedaa
open Go.RowKit
set_option linter.unusedVariables false
/-- a short table and a number are drawn -/
def DrewTN (w : World) (e : Ending) (w' : World) : Prop :=
  ∃ A c t, ∃ k : Nat, e = .returned (.tuple #[.slice A (t : List (List Int)).length c, .int .i64 k]) ∧ (t.length ≤ c ∧ c ≤ maxLen) ∧ Tab IntV w' A t ∧ Short t ∧ k < 7 ∧ Below w.heap.size w w'
set_option maxHeartbeats 400000 in
theorem drawMaskSmall_any (A : Option Addr) (c : Nat) (bs : List Int) (w : World) (hs : Seq ByteV w A bs) (hl : bs.length ≤ maxLen) (hc : bs.length ≤ c) (hc' : c ≤ maxLen) (hby : ∀ b ∈ bs, 0 ≤ b ∧ b ≤ 255) :
    Calls Try.prog 23 #[.slice A bs.length c] w (DrewTN w) := by
  go_enter Try.func23, Try.ntmps23
  go_wp2_with fail
  refine (l6Open_any A c bs _ hs hl hc hc' hby).mono ?_
  rintro e w1 ⟨rfl, hr, hb, hz⟩
  go_wp2_with fail
  refine (l92Table_any _ _ 0 8 _ hr hz (by omega) (by omega)).mono ?_
  rintro e w2 ⟨A1, c1, t, p1, rfl, hc1, hT, hsh, hr2, hp1, hg⟩
  have hb2 : Below w.heap.size w w2 := hb.trans (grow_below hg hb.size (Nat.le_refl _))
  clear hb hs hr hg
  go_wp2_with fail
  refine (pick_int _ _ p1 7 _ hr2 (by omega) (by omega) (by omega)).mono ?_
  rintro e w3 ⟨k, rfl, hk, hr3, hg3, hz3⟩
  have hb3 : Below w.heap.size w w3 := hb2.trans (grow_below hg3 hb2.size (Nat.le_refl _))
  have hT3 := hT w3 hg3
  clear hr2 hr3 hg3 hT
  go_wp2_with fail
  go_ret2
  exact ⟨A1, c1, t, k, rfl, hc1, hT3, hsh, by omega, hb3⟩
end Go.Proofs.Ytkneddahefhedaa
