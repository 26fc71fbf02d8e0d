/- DrawTableFold: some short table and two numbers. -/
import Derived.Test.YtncnghmadeghlaaDTable
namespace Go.Proofs.Ytncnghmadeghlaa
open Go.RowKit
set_option linter.unusedVariables false
/-- a short table and two numbers are drawn -/
def DrewF (w : World) (e : Ending) (w' : World) : Prop :=
  ∃ A c t, ∃ a b : Int, e = .returned (.tuple #[.slice A (t : List (List Int)).length c, .int .i64 a, .int .i64 b]) ∧ (t.length ≤ c ∧ c ≤ maxLen) ∧ Tab IntV w' A t ∧ Short t ∧ Below w.heap.size w w'
set_option maxHeartbeats 1000000 in
theorem drawTableFold_any (A : Option Addr) (c : Nat) (bs : List Int) (w : World) (hs : Seq ByteV w A bs) (hl : bs.length ≤ maxLen) (hc : bs.length ≤ c) (hc' : c ≤ maxLen) (hby : ∀ b ∈ bs, 0 ≤ b ∧ b ≤ 255) :
    Calls Try.prog 34 #[.slice A bs.length c] w (DrewF w) := by
  go_enter Try.func34, Try.ntmps34
  go_wp2_with fail
  refine (l6Open_any A c bs _ hs hl hc hc' hby).mono ?_
  rintro e w1 ⟨rfl, hr, hb, hz⟩
  clear hs
  go_wp2_with fail
  refine (pick_int _ _ 0 2 _ (hr.alloc hz _) (by omega) (by omega) (by omega)).mono ?_
  rintro e w2 ⟨k, rfl, hk, hr2, hg2, hz2⟩
  have hs2 := hg2.size
  simp at hs2
  obtain ⟨y, hy, hcell⟩ : ∃ y : Nat, y ≤ 98 ∧ w2.cell? ⟨w1.heap.size, k, none⟩ = some (.int .i64 y) := by
    have hblk := hg2.block w1.heap.size (by simp) (by intro e; injection e with e; omega)
    have hc0 : w2.cell? ⟨w1.heap.size, k, none⟩ = (w1.alloc (.cells #[.int .i64 9, .int .i64 60] 3)).cell? ⟨w1.heap.size, k, none⟩ := World.cell?_of_block hblk
    rw [hc0, (Blk.new w1 3 #[.int .i64 9, .int .i64 60]).cell]
    have hk' : k = 0 ∨ k = 1 := by omega
    rcases hk' with rfl | rfl
    · exact ⟨9, by omega, rfl⟩
    · exact ⟨60, by omega, rfl⟩
  have hb2 : Below w.heap.size w w2 := (hb.alloc (by omega) _).trans (grow_below hg2 (by simp; omega) (Nat.le_refl _))
  have kk : (k : Int) < 2 := hk
  clear hr hg2 hz2
  go_wp2_with fail
  refine (l92Table_any _ _ (0 + 1) y _ hr2 (by omega) (by omega) hy).mono ?_
  rintro e w3 ⟨A1, c1, t, p1, rfl, hc1, hT, hsh, hr3, hp1, hg3⟩
  have hb3 : Below w.heap.size w w3 := hb2.trans (grow_below hg3 hb2.size (Nat.le_refl _))
  have hs3 := hb3.size
  have hs3' := hg3.size
  have ht4 := hsh.1
  have HT := Lib.hid hT
  have HSH := Lib.hid hsh
  clear hr2 hcell hg3 hT hsh hb2 hb
  by_cases ht : t.length < 2
  · go_wp2_with fail
    refine (pick_int _ _ p1 3 _ hr3 (by omega) (by omega) (by omega)).mono ?_
    rintro e w4 ⟨k4, rfl, hk4, hr4, hg4, hz4⟩
    go_wp2_with fail
    refine (pick_int _ _ (p1 + 1) 5 _ hr4 (by omega) (by omega) (by omega)).mono ?_
    rintro e w5 ⟨k5, rfl, hk5, hr5, hg5, hz5⟩
    have hg45 := hg4.trans hg5
    have hT5 := HT.out w5 hg45
    have hb5 : Below w.heap.size w w5 := hb3.trans (grow_below hg45 hb3.size (Nat.le_refl _))
    clear hr3 hr4 hr5 hg4 hg5 hg45
    go_wp2_with fail
    go_ret3
    exact ⟨A1, c1, t, _, _, rfl, hc1, hT5, HSH.out, hb5⟩
  · have ht' : decide ((t.length : Int) < 2) = false := decide_eq_false (by omega)
    go_wp2_with fail
    refine (pick_int _ _ p1 16 _ hr3 (by omega) (by omega) (by omega)).mono ?_
    rintro e w4 ⟨k4, rfl, hk4, hr4, hg4, hz4⟩
    have hs4 := hg4.size
    by_cases h0 : k4 = 0
    · subst h0
      go_wp2_with fail
      refine (pick_int _ _ (p1 + 1) 3 _ hr4 (by omega) (by omega) (by omega)).mono ?_
      rintro e w5 ⟨k5, rfl, hk5, hr5, hg5, hz5⟩
      go_wp2_with fail
      refine (pick_int _ _ (p1 + 1 + 1) 5 _ hr5 (by omega) (by omega) (by omega)).mono ?_
      rintro e w6 ⟨k6, rfl, hk6, hr6, hg6, hz6⟩
      have hg46 := (hg4.trans hg5).trans hg6
      have hT6 := HT.out w6 hg46
      have hb6 : Below w.heap.size w w6 := hb3.trans (grow_below hg46 hb3.size (Nat.le_refl _))
      clear hr3 hr4 hr5 hr6 hg4 hg5 hg6 hg46
      go_wp2_with fail
      go_ret3
      exact ⟨A1, c1, t, _, _, rfl, hc1, hT6, HSH.out, hb6⟩
    · have h0' : ((k4 : Int) == 0) = false := beq_eq_false_iff_ne.2 (by omega)
      go_wp2_with fail
      refine (pick_int _ _ (p1 + 1) _ _ hr4 (by omega) (by omega) (by omega)).mono ?_
      rintro e w5 ⟨k5, rfl, hk5, hr5, hg5, hz5⟩
      go_wp2_with fail
      refine (pick_int _ _ (p1 + 1 + 1) _ _ hr5 (by omega) (by omega) (by omega)).mono ?_
      rintro e w6 ⟨k6, rfl, hk6, hr6, hg6, hz6⟩
      have hg46 := (hg4.trans hg5).trans hg6
      have hT6 := HT.out w6 hg46
      have hb6 : Below w.heap.size w w6 := hb3.trans (grow_below hg46 hb3.size (Nat.le_refl _))
      clear hr3 hr4 hr5 hr6 hg4 hg5 hg6 hg46
      go_wp2_with fail
      go_ret3
      exact ⟨A1, c1, t, _, _, rfl, hc1, hT6, HSH.out, hb6⟩
end Go.Proofs.Ytncnghmadeghlaa
