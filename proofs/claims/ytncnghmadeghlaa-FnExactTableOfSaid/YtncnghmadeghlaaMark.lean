/- Contracts of markIntS, heldIntS, markIntSS, heldIntSS. -/
import Derived.Test.YtncnghmadeghlaaMarkW
import Derived.Test.YtncnghmadeghlaaRows
import Derived.Outline
import Derived.Deep.QuietTactic
import Derived.BigQuiet
namespace Go.Proofs.Ytncnghmadeghlaa
open Go.RowKit
set_option linter.unusedVariables false
set_option maxHeartbeats 400000 in
theorem markIntS_any (A : Option Addr) (n c : Nat) (xs : List Int) (k : Int) (base : Nat) (w : World) (hl : xs.length = n) (ho : w.ownsRow base 3 1 (.slice A n c) n (xs.map IntV)) (hn : n ≤ 1048576) (k0 : 0 ≤ k) (k1 : k ≤ 1200000000000) :
    Calls Try.prog 51 #[.slice A n c, .int .i64 k] w fun e w' => e = .returned (.int .i64 (k + n)) ∧ w'.ownsRow base 3 1 (.slice A n c) n ((numL (fun x => x) k n).map IntV) ∧ w.grownBy w' (Value.slice A n c).ownBlock := by
  obtain ⟨f, hf⟩ : ∃ f : Nat → Int, xs = mkL n f := ⟨fun i => xs.getD i 0, by rw [← hl]; exact mkL_of xs 0⟩
  rw [hf] at ho
  have HO := Lib.hid ho
  clear ho hf hl
  go_enter Try.func51, Try.ntmps51
  go_wp2_with fail
  go_loopw [1, 5] (fun v i wr => ∃ j : Nat, j ≤ n ∧ i = .int .i64 j ∧ v = .int .i64 (k + j) ∧ Hid (wr.ownsRow base 3 1 (.slice A n c) n ((mkL n fun a => if a < j then k + (a : Int) else f a).map IntV)) ∧ Hid (w.grownBy wr (Value.slice A n c).ownBlock)) (fun _ i _ => n - (intOf i).toNat)
  case atStart => exact ⟨0, Nat.zero_le _, rfl, by simp, Lib.hid (by simpa using HO.out), Lib.hid ⟨rfl, rfl, rfl, Nat.le_refl _, fun _ _ _ => rfl⟩⟩
  case round =>
    obtain ⟨j, hj, rfl, rfl, HO1, HG⟩ := hrel
    by_cases hlt : j < n
    · obtain ⟨b, rfl, hb1, hb2, hc, hfz, hst⟩ := own_mk (f := IntV) HO1.out hlt
      have hs := hst (k + j)
      have HS : Hid ((wr.setCell ⟨b, j, none⟩ (.int .i64 (k + j))).ownsRow base 3 1 (.slice (some ⟨b, 0, none⟩) n c) n ((mkL n fun a => if a < j + 1 then k + (a : Int) else f a).map IntV)) := Lib.hid (by
        have e : mkL n (up1 (fun a => if a < j then k + (a : Int) else f a) j (k + j)) = mkL n fun a => if a < j + 1 then k + (a : Int) else f a := mkL_ext fun a ha => by
          by_cases h1 : a = j
          · subst h1; simp [up1]
          · simp only [up1, if_neg h1]
            by_cases h2 : a < j
            · rw [if_pos h2, if_pos (by omega)]
            · rw [if_neg h2, if_neg (by omega)]
        rw [← e]
        exact hs)
      have HG2 : Hid (w.grownBy (wr.setCell ⟨b, j, none⟩ (.int .i64 (k + j))) (Value.slice (some ⟨b, 0, none⟩) n c).ownBlock) := Lib.hid (HG.out.trans ⟨rfl, rfl, rfl, by simp [World.setCell], fun i hi hne => Below.heap_setCell _ _ _ i (by intro e; exact hne (by rw [e]; rfl))⟩)
      clear hs hst
      go_wp2_with fail
      go_roundw
      case rel => exact ⟨j + 1, by omega, by go_num, by go_num, HS, HG2⟩
      case measure => simp [intOf]; omega
    · obtain rfl : j = n := by omega
      go_wp2_with fail
      go_ret
      refine ⟨rfl, ?_, HG.out⟩
      have e : numL (fun x => x) k j = mkL j fun a => if a < j then k + (a : Int) else f a := mkL_ext fun a ha => by rw [if_pos ha]
      rw [e]
      exact HO1.out
set_option maxHeartbeats 400000 in
theorem heldIntS_any (A : Option Addr) (n c : Nat) (k : Int) (w : World) (hx : Seq IntV w A (numL (fun x => x) k n)) (hn : n ≤ 1048576) (k0 : 0 ≤ k) (k1 : k ≤ 1200000000000) :
    Calls Try.prog 52 #[.slice A n c, .int .i64 k] w fun e w' => e = .returned (.int .i64 (k + n)) ∧ Qu w w' := by
  go_enter Try.func52, Try.ntmps52
  go_wp2_with fail
  go_loopw [1, 5] (fun v i wr => ∃ j : Nat, j ≤ n ∧ i = .int .i64 j ∧ v = .int .i64 (k + j) ∧ Hid (Qu w wr)) (fun _ i _ => n - (intOf i).toNat)
  case atStart => exact ⟨0, Nat.zero_le _, rfl, by simp, Lib.hid (Qu.refl _)⟩
  case round =>
    obtain ⟨j, hj, rfl, rfl, HQ⟩ := hrel
    by_cases hlt : j < n
    · obtain ⟨b, o, x, rfl, hb, hxk, hc⟩ := (hx.qu HQ.out).at_ (k := j) (by rw [numL_len]; exact hlt)
      rw [numL_get _ _ hlt] at hxk
      injection hxk with hxk
      have hc' : wr.cell? ⟨b, o + j, none⟩ = some (.int .i64 (k + j)) := by rw [hc, ← hxk]
      have g1 : (j : Int) < (n : Int) := by omega
      have ne : ((k + (j : Int)) != (k + (j : Int))) = false := by simp
      clear hc hxk
      go_wp2_with fail
      first
        | (go_roundw
           case rel => exact ⟨j + 1, by omega, by go_num, by go_num, HQ⟩
           case measure => simp [intOf]; omega)
        | (go_quiet (fail)
           go_wp2_with fail
           go_roundw
           case rel => exact ⟨j + 1, by omega, by go_num, by go_num, Lib.hid (HQ.out.drewN _)⟩
           case measure => simp [intOf]; omega)
    · obtain rfl : j = n := by omega
      go_wp2_with fail
      go_ret
      exact ⟨rfl, HQ.out⟩
end Go.Proofs.Ytncnghmadeghlaa
