/- DrawPartsLead: a list, a number from 0 to 21 and a number from -1 to 101. -/
import Derived.Test.YtloehocldbfbbaaDPercent
namespace Go.Proofs.Ytloehocldbfbbaa
open Go.RowKit
set_option linter.unusedVariables false
/-- a list and two numbers are drawn -/
def DrewLead (w : World) (e : Ending) (w' : World) : Prop :=
  ∃ A c xs, ∃ n p : Int, e = .returned (.tuple #[.slice A (xs : List Int).length c, .int .i64 n, .int .i64 p]) ∧ Lst IntV w' A c xs ∧ Drawn xs ∧ ((0 ≤ n ∧ n ≤ 21) ∧ (-1 ≤ p ∧ p ≤ 101)) ∧ Below w.heap.size w w'
set_option maxHeartbeats 400000 in
theorem drawPartsLead_any (A : Option Addr) (c : Nat) (bs : List Int) (w : World) (hs : Seq ByteV w A bs) (hl : bs.length ≤ maxLen) (hc : bs.length ≤ c) (hc' : c ≤ maxLen) (hby : ∀ b ∈ bs, 0 ≤ b ∧ b ≤ 255) :
    Calls Try.prog 16 #[.slice A bs.length c] w (DrewLead w) := by
  go_enter Try.func16, Try.ntmps16
  go_wp2_with fail
  refine (l6Open_any A c bs _ hs hl hc hc' hby).mono ?_
  rintro e w1 ⟨rfl, hr, hb, hz⟩
  go_wp2_with fail
  refine (l92Parts_any _ _ 0 _ hr hz (by omega)).mono ?_
  rintro e w2 hd
  obtain ⟨A1, c1, xs, p1, rfl, ho, hr2, hd, hb2⟩ := drew_parts hb hz hd
  have hp1 := hr2.2.1
  clear hb hs
  go_wp2_with fail
  refine (pick_int _ _ p1 3 _ hr2.1 (by omega) (by omega) (by omega)).mono ?_
  rintro e w3 hp
  obtain ⟨k, rfl, hk, ho3, hr3, hb3⟩ := picked_parts ho ⟨hr2.1, by omega, hr2.2.2⟩ hb2 hp
  clear ho hr2 hb2 hr hp
  go_wp2_with fail
  refine (pick_int _ _ (p1 + 1) 20 _ hr3.1 (by omega) (by omega) (by omega)).mono ?_
  rintro e w4 hp
  obtain ⟨k2, rfl, hk2, ho4, hr4, hb4⟩ := picked_parts ho3 ⟨hr3.1, by omega, hr3.2.2⟩ hb3 hp
  clear ho3 hr3 hb3 hp
  by_cases c0 : k2 = 0
  · subst c0
    go_wp2_with fail
    have ho5 := ho4.alloc (.cells #[.int .i64 0, .int .i64 21] 3)
    have hb5 := hb4.alloc hb4.size (.cells #[.int .i64 0, .int .i64 21] 3)
    have hz4 := hr4.2.2
    refine (pick_int _ _ (p1 + 1 + 1) 2 _ (hr4.1.alloc hr4.2.2 _) (by omega) (by omega) (by omega)).mono ?_
    rintro e w5 hp
    obtain ⟨y, hy, hcell⟩ : ∃ y : Int, (0 ≤ y ∧ y ≤ 21) ∧ w5.cell? ⟨w4.heap.size, (intOf (match e with | .returned v => v | _ => undef)).toNat, none⟩ = some (.int .i64 y) := by
      obtain ⟨k3, rfl, hk3, _, hg, _⟩ := hp
      simp only [intOf, Int.toNat_natCast]
      rw [hg.cell_far ⟨w4.heap.size, k3, none⟩ (by simp) (by simp; omega)]
      have hk' : k3 = 0 ∨ k3 = 1 := by omega
      rcases hk' with rfl | rfl
      · exact ⟨0, by omega, by simp⟩
      · exact ⟨21, by omega, by simp⟩
    obtain ⟨k3, rfl, hk3, ho6, hr6, hb6⟩ := picked_parts ho5 ⟨hr4.1.alloc hr4.2.2 _, by omega, by simp; omega⟩ hb5 hp
    simp only [intOf, Int.toNat_natCast] at hcell
    clear ho4 hr4 hb4 hp ho5 hb5
    go_wp2_with fail
    refine (l92Percent_any _ _ (p1 + 1 + 1 + 1) _ hr6.1 hr6.2.2 (by omega)).mono ?_
    rintro e w7 hp
    obtain ⟨k4, p4, rfl, hk4, ho7, hr7, hb7⟩ := drewNum_parts ho6 ⟨by omega, hr6.2.2⟩ hb6 hp
    clear ho6 hr6 hb6 hp
    go_wp2_with fail
    go_ret3
    exact ⟨A1, c1, xs, _, _, rfl, Lst.of_own ho7, hd, ⟨hy, hk4⟩, hb7⟩
  · have c0' : ((k2 : Int) == 0) = false := beq_eq_false_iff_ne.2 (by omega)
    go_wp2_with fail
    refine (l92Percent_any _ _ (p1 + 1 + 1) _ hr4.1 hr4.2.2 (by omega)).mono ?_
    rintro e w7 hp
    obtain ⟨k4, p4, rfl, hk4, ho7, hr7, hb7⟩ := drewNum_parts ho4 ⟨by omega, hr4.2.2⟩ hb4 hp
    clear ho4 hr4 hb4 hp
    go_wp2_with fail
    go_ret3
    exact ⟨A1, c1, xs, _, _, rfl, Lst.of_own ho7, hd, ⟨by omega, hk4⟩, hb7⟩
end Go.Proofs.Ytloehocldbfbbaa
