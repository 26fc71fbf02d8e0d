/- DrawPartsTop: a list and a number from -1 to 5. -/
import Derived.Test.YtajdcjimpnheoaaDrawParts
namespace Go.Proofs.Ytajdcjimpnheoaa
open Go.RowKit
set_option linter.unusedVariables false
/-- a list and a number are drawn -/
def DrewTop (w : World) (e : Ending) (w' : World) : Prop :=
  ∃ A c xs, ∃ n : Int, e = .returned (.tuple #[.slice A (xs : List Int).length c, .int .i64 n]) ∧ Lst IntV w' A c xs ∧ Drawn xs ∧ (-1 ≤ n ∧ n ≤ 5) ∧ Below w.heap.size w w'
set_option maxHeartbeats 400000 in
theorem drawPartsTop_any (A : Option Addr) (c : Nat) (bs : List Int) (w : World) (hs : Seq ByteV w A bs) (hl : bs.length ≤ maxLen) (hc : bs.length ≤ c) (hc' : c ≤ maxLen) (hby : ∀ b ∈ bs, 0 ≤ b ∧ b ≤ 255) :
    Calls Try.prog 15 #[.slice A bs.length c] w (DrewTop w) := by
  go_enter Try.func15, Try.ntmps15
  go_wp2_with fail
  refine (l6Open_any A c bs _ hs hl hc hc' hby).mono ?_
  rintro e w1 ⟨rfl, hr, hb, hz⟩
  go_wp2_with fail
  refine (l92Parts_any _ _ 0 _ hr hz (by omega)).mono ?_
  rintro e w2 hd
  obtain ⟨A1, c1, xs, p1, rfl, ho, hr2, hd, hb2⟩ := drew_parts hb hz hd
  have hp1 := hr2.2.1
  clear hb hs
  go_wp2_with fail
  refine (pick_int _ _ p1 6 _ hr2.1 (by omega) (by omega) (by omega)).mono ?_
  rintro e w3 hp
  obtain ⟨k, rfl, hk, ho3, hr3, hb3⟩ := picked_parts ho ⟨hr2.1, by omega, hr2.2.2⟩ hb2 hp
  clear ho hr2 hb2 hr hp
  go_wp2_with fail
  refine (pick_int _ _ (p1 + 1) 20 _ hr3.1 (by omega) (by omega) (by omega)).mono ?_
  rintro e w4 hp
  obtain ⟨k2, rfl, hk2, ho4, hr4, hb4⟩ := picked_parts ho3 ⟨hr3.1, by omega, hr3.2.2⟩ hb3 hp
  clear ho3 hr3 hb3 hp
  go_wp2_with fail
  go_ret2
  exact ⟨A1, c1, xs, _, rfl, Lst.of_own ho4, hd, by omega, hb4⟩
end Go.Proofs.Ytajdcjimpnheoaa
