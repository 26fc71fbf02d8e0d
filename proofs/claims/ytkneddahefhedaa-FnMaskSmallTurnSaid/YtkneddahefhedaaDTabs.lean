/- DrawTableSums, DrawTableTotal, DrawTableTurn: some short table. -/
import Derived.Test.YtkneddahefhedaaDTable
namespace Go.Proofs.Ytkneddahefhedaa
open Go.RowKit
set_option linter.unusedVariables false
/-- a short table is drawn in new memory -/
def DrewT (w : World) (e : Ending) (w' : World) : Prop :=
  ∃ A c t, e = .returned (.slice A (t : List (List Int)).length c) ∧ (t.length ≤ c ∧ c ≤ maxLen) ∧ Tab IntV w' A t ∧ Short t ∧ Below w.heap.size w w'
theorem Short.wf {t : List (List Int)} (h : Short t) : t.length ≤ maxLen := by have := h.1; unfold maxLen; omega
set_option maxHeartbeats 400000 in
theorem drawTableSums_any (A : Option Addr) (c : Nat) (bs : List Int) (w : World) (hs : Seq ByteV w A bs) (hl : bs.length ≤ maxLen) (hc : bs.length ≤ c) (hc' : c ≤ maxLen) (hby : ∀ b ∈ bs, 0 ≤ b ∧ b ≤ 255) :
    Calls Try.prog 35 #[.slice A bs.length c] w (DrewT w) := by
  go_enter Try.func35, Try.ntmps35
  go_wp2_with fail
  refine (l6Open_any A c bs _ hs hl hc hc' hby).mono ?_
  rintro e w1 ⟨rfl, hr, hb, hz⟩
  go_wp2_with fail
  refine (l92Table_any _ _ 0 30 _ hr hz (by omega) (by omega)).mono ?_
  rintro e w2 ⟨A1, c1, t, p1, rfl, hc1, hT, hsh, -, -, hg⟩
  have hb2 : Below w.heap.size w w2 := hb.trans (grow_below hg hb.size (Nat.le_refl _))
  clear hb hs hr hg
  go_wp2_with fail
  go_ret
  exact ⟨A1, c1, t, rfl, hc1, hT _ ⟨rfl, rfl, rfl, Nat.le_refl _, fun _ _ _ => rfl⟩, hsh, hb2⟩
set_option maxHeartbeats 400000 in
theorem drawTableTotal_any (A : Option Addr) (c : Nat) (bs : List Int) (w : World) (hs : Seq ByteV w A bs) (hl : bs.length ≤ maxLen) (hc : bs.length ≤ c) (hc' : c ≤ maxLen) (hby : ∀ b ∈ bs, 0 ≤ b ∧ b ≤ 255) :
    Calls Try.prog 38 #[.slice A bs.length c] w (DrewT w) := by
  go_enter Try.func38, Try.ntmps38
  go_wp2_with fail
  refine (l6Open_any A c bs _ hs hl hc hc' hby).mono ?_
  rintro e w1 ⟨rfl, hr, hb, hz⟩
  go_wp2_with fail
  refine (l92Table_any _ _ 0 30 _ hr hz (by omega) (by omega)).mono ?_
  rintro e w2 ⟨A1, c1, t, p1, rfl, hc1, hT, hsh, -, -, hg⟩
  have hb2 : Below w.heap.size w w2 := hb.trans (grow_below hg hb.size (Nat.le_refl _))
  clear hb hs hr hg
  go_wp2_with fail
  go_ret
  exact ⟨A1, c1, t, rfl, hc1, hT _ ⟨rfl, rfl, rfl, Nat.le_refl _, fun _ _ _ => rfl⟩, hsh, hb2⟩
set_option maxHeartbeats 400000 in
theorem drawTableTurn_any (A : Option Addr) (c : Nat) (bs : List Int) (w : World) (hs : Seq ByteV w A bs) (hl : bs.length ≤ maxLen) (hc : bs.length ≤ c) (hc' : c ≤ maxLen) (hby : ∀ b ∈ bs, 0 ≤ b ∧ b ≤ 255) :
    Calls Try.prog 14 #[.slice A bs.length c] w (DrewT w) := by
  go_enter Try.func14, Try.ntmps14
  go_wp2_with fail
  refine (l6Open_any A c bs _ hs hl hc hc' hby).mono ?_
  rintro e w1 ⟨rfl, hr, hb, hz⟩
  go_wp2_with fail
  refine (l92Table_any _ _ 0 30 _ hr hz (by omega) (by omega)).mono ?_
  rintro e w2 ⟨A1, c1, t, p1, rfl, hc1, hT, hsh, -, -, hg⟩
  have hb2 : Below w.heap.size w w2 := hb.trans (grow_below hg hb.size (Nat.le_refl _))
  clear hb hs hr hg
  go_wp2_with fail
  go_ret
  exact ⟨A1, c1, t, rfl, hc1, hT _ ⟨rfl, rfl, rfl, Nat.le_refl _, fun _ _ _ => rfl⟩, hsh, hb2⟩
end Go.Proofs.Ytkneddahefhedaa
