/- l92Percent: a number from -1 to 101. -/
import Derived.Test.YtloehocldbfbbaaDrawParts
namespace Go.Proofs.Ytloehocldbfbbaa
open Go.RowKit
set_option linter.unusedVariables false
/-- a number is drawn -/
def DrewNum (lo hi : Int) (w : World) (B g p : Nat) (e : Ending) (w' : World) : Prop :=
  ∃ (n : Int) (p' : Nat), e = .returned (.int .i64 n) ∧ (lo ≤ n ∧ n ≤ hi) ∧ Rd w' B g p' ∧ p' ≤ p + 10 ∧ w.grownBy w' (some g)
set_option maxHeartbeats 400000 in
theorem l92Percent_any (B g p : Nat) (w : World) (hr : Rd w B g p) (hB : B ≤ w.heap.size) (hp : p ≤ 900000) :
    Calls Try.prog 26 #[.pointer (some ⟨g, 0, none⟩)] w (DrewNum (-1) 101 w B g p) := by
  have hgB := hr.lt
  go_enter Try.func26, Try.ntmps26
  go_wp2_with fail
  refine (pick_int B g p 20 _ hr (by omega) (by omega) (by omega)).mono ?_
  rintro e w1 ⟨k, rfl, hk, hr1, hg1, hsz1⟩
  have hu1 := hg1.size
  by_cases c0 : k = 0
  · subst c0
    go_wp2_with fail
    refine (pick_int B g (p + 1) 4 _ (hr1.alloc (by omega) _) (by omega) (by omega) (by omega)).mono ?_
    rintro e w3 ⟨k2, rfl, hk2, hr4, hg5, hsz5⟩
    obtain ⟨y, hy, hcell⟩ : ∃ y : Int, (-1 ≤ y ∧ y ≤ 101) ∧ w3.cell? ⟨w1.heap.size, k2, none⟩ = some (.int .i64 y) := by
      rw [hg5.cell_far ⟨w1.heap.size, k2, none⟩ (by simp) (by simp; omega)]
      have hk2' : k2 = 0 ∨ k2 = 1 ∨ k2 = 2 ∨ k2 = 3 := by omega
      rcases hk2' with rfl | rfl | rfl | rfl
      · exact ⟨-1, by omega, by simp⟩
      · exact ⟨101, by omega, by simp⟩
      · exact ⟨0, by omega, by simp⟩
      · exact ⟨100, by omega, by simp⟩
    have hg6 : w.grownBy w3 (some g) := (hg1.trans (World.grownBy_alloc _ _ _)).trans hg5
    clear hg1 hg5 hr1
    go_wp2_with fail
    go_ret
    exact ⟨y, p + 1 + 1, rfl, hy, hr4, by omega, hg6⟩
  · have c0' : ((k : Int) == 0) = false := beq_eq_false_iff_ne.2 (by omega)
    go_wp2_with fail
    refine (pick_int B g (p + 1) 21 _ hr1 (by omega) (by omega) (by omega)).mono ?_
    rintro e w3 ⟨k2, rfl, hk2, hr4, hg5, hsz5⟩
    have hg6 : w.grownBy w3 (some g) := hg1.trans hg5
    clear hg1 hg5 hr1
    go_wp2_with fail
    go_ret
    exact ⟨_, p + 1 + 1, rfl, by omega, hr4, by omega, hg6⟩
/-- what such a draw leaves of a list that lies apart from the reader -/
theorem drewNum_parts {lo hi : Int} {w w1 w2 : World} {p : Nat} {e : Ending} {v : Value} {n : Nat} {vs : List Value} {t : TypeId} (ho : w1.ownsRow (w.heap.size + 1) t 1 v n vs) (hr : p ≤ 1000 ∧ w.heap.size + 1 ≤ w1.heap.size) (hb : Below w.heap.size w w1) (hd : DrewNum lo hi w1 (w.heap.size + 1) w.heap.size p e w2) :
    ∃ (k : Int) (p' : Nat), e = .returned (.int .i64 k) ∧ (lo ≤ k ∧ k ≤ hi) ∧ w2.ownsRow (w.heap.size + 1) t 1 v n vs ∧ (Rd w2 (w.heap.size + 1) w.heap.size p' ∧ p' ≤ 1010 ∧ w.heap.size + 1 ≤ w2.heap.size) ∧ Below w.heap.size w w2 := by
  obtain ⟨k, p', rfl, hk, hr2, hp, hg⟩ := hd
  have hz1 := hg.size
  exact ⟨k, p', rfl, hk, ho.kept hg (.inr fun e => by have := (ho.lt _ e).1; omega), ⟨hr2, by omega, by omega⟩, hb.trans (grow_below hg hb.size (Nat.le_refl _))⟩
end Go.Proofs.Ytloehocldbfbbaa
