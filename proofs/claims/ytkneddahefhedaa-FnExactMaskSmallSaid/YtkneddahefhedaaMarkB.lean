/- Contracts of markBoolS, heldBoolS, markBoolSS, heldBoolSS. -/
import Derived.Test.YtkneddahefhedaaMarkSS
namespace Go.Proofs.Ytkneddahefhedaa
open Go.RowKit
set_option linter.unusedVariables false
def flagOf (k : Int) : Bool := k % 3 == 0
set_option maxHeartbeats 400000 in
theorem markBoolS_any (A : Option Addr) (n c : Nat) (xs : List Bool) (k : Int) (base : Nat) (w : World) (hl : xs.length = n) (ho : w.ownsRow base 4 1 (.slice A n c) n (xs.map BoolV)) (hn : n ≤ 1048576) (k0 : 0 ≤ k) (k1 : k ≤ 1200000000000) :
    Calls Try.prog 62 #[.slice A n c, .int .i64 k] w fun e w' => e = .returned (.int .i64 (k + n)) ∧ w'.ownsRow base 4 1 (.slice A n c) n ((numL flagOf k n).map BoolV) ∧ w.grownBy w' (Value.slice A n c).ownBlock := by
  obtain ⟨f, hf⟩ : ∃ f : Nat → Bool, xs = mkL n f := ⟨fun i => xs.getD i false, by rw [← hl]; exact mkL_of xs false⟩
  rw [hf] at ho
  have HO := Lib.hid ho
  clear ho hf hl
  go_enter Try.func62, Try.ntmps62
  go_wp2_with fail
  go_loopw [1, 5] (fun v i wr => ∃ j : Nat, j ≤ n ∧ i = .int .i64 j ∧ v = .int .i64 (k + j) ∧ Hid (wr.ownsRow base 4 1 (.slice A n c) n ((mkL n fun a => if a < j then flagOf (k + (a : Int)) else f a).map BoolV)) ∧ Hid (w.grownBy wr (Value.slice A n c).ownBlock)) (fun _ i _ => n - (intOf i).toNat)
  case atStart => exact ⟨0, Nat.zero_le _, rfl, by simp, Lib.hid (by simpa using HO.out), Lib.hid ⟨rfl, rfl, rfl, Nat.le_refl _, fun _ _ _ => rfl⟩⟩
  case round =>
    obtain ⟨j, hj, rfl, rfl, HO1, HG⟩ := hrel
    by_cases hlt : j < n
    · obtain ⟨b, rfl, hb1, hb2, hc, hfz, hst⟩ := own_mk (f := BoolV) HO1.out hlt
      have hs := hst (flagOf (k + j))
      have HS : Hid ((wr.setCell ⟨b, j, none⟩ (.bool (flagOf (k + j)))).ownsRow base 4 1 (.slice (some ⟨b, 0, none⟩) n c) n ((mkL n fun a => if a < j + 1 then flagOf (k + (a : Int)) else f a).map BoolV)) := Lib.hid (by
        have e : mkL n (up1 (fun a => if a < j then flagOf (k + (a : Int)) else f a) j (flagOf (k + j))) = mkL n fun a => if a < j + 1 then flagOf (k + (a : Int)) else f a := mkL_ext fun a ha => by
          by_cases h1 : a = j
          · subst h1; simp [up1]
          · simp only [up1, if_neg h1]
            by_cases h2 : a < j
            · rw [if_pos h2, if_pos (by omega)]
            · rw [if_neg h2, if_neg (by omega)]
        rw [← e]
        exact hs)
      have HG2 : Hid (w.grownBy (wr.setCell ⟨b, j, none⟩ (.bool (flagOf (k + j)))) (Value.slice (some ⟨b, 0, none⟩) n c).ownBlock) := Lib.hid (HG.out.trans ⟨rfl, rfl, rfl, by simp [World.setCell], fun i hi hne => Below.heap_setCell _ _ _ i (by intro e; exact hne (by rw [e]; rfl))⟩)
      clear hs hst
      go_wp2_with fail
      go_roundw
      case rel => exact ⟨j + 1, by omega, by go_num, by go_num, HS, HG2⟩
      case measure => simp [intOf]; omega
    · obtain rfl : j = n := by omega
      go_wp2_with fail
      go_ret
      refine ⟨rfl, ?_, HG.out⟩
      have e : numL flagOf k j = mkL j fun a => if a < j then flagOf (k + (a : Int)) else f a := mkL_ext fun a ha => by rw [if_pos ha]
      rw [e]
      exact HO1.out
set_option maxHeartbeats 400000 in
theorem heldBoolS_any (A : Option Addr) (n c : Nat) (k : Int) (w : World) (hx : Seq BoolV w A (numL flagOf k n)) (hn : n ≤ 1048576) (k0 : 0 ≤ k) (k1 : k ≤ 1200000000000) :
    Calls Try.prog 63 #[.slice A n c, .int .i64 k] w fun e w' => e = .returned (.int .i64 (k + n)) ∧ Qu w w' := by
  go_enter Try.func63, Try.ntmps63
  go_wp2_with fail
  go_loopw [1, 5] (fun v i wr => ∃ j : Nat, j ≤ n ∧ i = .int .i64 j ∧ v = .int .i64 (k + j) ∧ Hid (Qu w wr)) (fun _ i _ => n - (intOf i).toNat)
  case atStart => exact ⟨0, Nat.zero_le _, rfl, by simp, Lib.hid (Qu.refl _)⟩
  case round =>
    obtain ⟨j, hj, rfl, rfl, HQ⟩ := hrel
    by_cases hlt : j < n
    · obtain ⟨b, o, x, rfl, hb, hxk, hc⟩ := (hx.qu HQ.out).at_ (k := j) (by rw [numL_len]; exact hlt)
      rw [numL_get _ _ hlt] at hxk
      injection hxk with hxk
      have hc' : wr.cell? ⟨b, o + j, none⟩ = some (.bool (flagOf (k + j))) := by rw [hc, ← hxk]
      have g1 : (j : Int) < (n : Int) := by omega
      clear hc hxk
      obtain ⟨v, hv⟩ : ∃ v, flagOf (k + (j : Int)) = v := ⟨_, rfl⟩
      rw [hv] at hc'
      have hm : ((k + (j : Int)) % 3 == 0) = v := hv
      clear hv
      cases v
      all_goals
        go_wp2_with fail
        go_roundw
        case rel => exact ⟨j + 1, by omega, by go_num, by go_num, HQ⟩
        case measure => simp [intOf]; omega
    · obtain rfl : j = n := by omega
      go_wp2_with fail
      go_ret
      exact ⟨rfl, HQ.out⟩
set_option maxHeartbeats 400000 in
theorem markBoolSS_any (A : Option Addr) (c : Nat) (t : List (List Bool)) (k : Int) (lo hi : Nat) (w : World) (ho : Hold BoolV 4 lo hi w A t) (hl : t.length ≤ 1048576) (hr : ∀ r ∈ t, r.length ≤ 1048576) (k0 : 0 ≤ k) (k1 : k ≤ 1) :
    Calls Try.prog 45 #[.slice A t.length c, .int .i64 k] w fun e w' => e = .returned (.int .i64 (numE t k)) ∧ Hold BoolV 4 lo hi w' A (numT flagOf t k) ∧ Turns lo hi w w' := by
  have HO := Lib.hid ho
  have HR := Lib.hid hr
  clear ho hr
  go_enter Try.func45, Try.ntmps45
  go_wp2_with fail
  go_loopw [1, 5] (fun v i wr => ∃ j : Nat, j ≤ t.length ∧ i = .int .i64 j ∧ v = .int .i64 (numE (t.take j) k) ∧ Hid (Hold BoolV 4 lo hi wr A (midT flagOf t k j)) ∧ Hid (Turns lo hi w wr)) (fun _ i _ => t.length - (intOf i).toNat)
  case atStart => exact ⟨0, Nat.zero_le _, rfl, by simp [numE], Lib.hid (by rw [midT_zero]; exact HO.out), Lib.hid (Turns.refl _ _ _)⟩
  case round =>
    obtain ⟨j, hj, rfl, rfl, HM, HT⟩ := hrel
    obtain ⟨wo, rfl⟩ : ∃ wo : World, wo = wr := ⟨_, rfl⟩
    have b0 := numE_ge (t.take j) k
    have b1 := numE_le HR.out j k
    have b2 : t.length * 1048576 ≤ 1048576 * 1048576 := Nat.mul_le_mul hl (Nat.le_refl _)
    obtain ⟨q, eq⟩ : ∃ q, numE (t.take j) k = q := ⟨_, rfl⟩
    rw [eq] at b0 b1
    have q1 : q ≤ 1100000000000 := by omega
    have q0 : 0 ≤ q := by omega
    have EQ := Lib.hid eq
    rw [eq]
    clear b0 b1 b2 eq
    by_cases hlt : j < t.length
    · obtain ⟨g, vs, rfl, hT⟩ := HM.out (by rw [midT_len _ _ _ hj]; omega)
      have hrj := List.getElem?_eq_getElem hlt
      obtain ⟨r, er⟩ : ∃ r, t[j] = r := ⟨_, rfl⟩
      rw [er] at hrj
      have hrl := HR.out r (List.mem_of_getElem? hrj)
      have hmid := midT_get flagOf (k := k) hrj
      have hrow := hT.row j r hmid
      obtain ⟨Ar, cr, hv, -⟩ := own_slice hrow
      have hcell : wo.cell? ⟨g, j, none⟩ = some (.slice Ar r.length cr) := by rw [← hv]; exact hT.outer j (by rw [midT_len _ _ _ hj]; exact hlt)
      rw [hv] at hrow
      have HRJ := Lib.hid hrj
      have HV := Lib.hid hv
      have HTT := Lib.hid hT
      have HMID := Lib.hid hmid
      clear hrj hv hT hmid er
      go_wp2_with fail
      refine (markBoolS_any Ar r.length cr r q lo _ rfl hrow hrl q0 (by omega)).mono ?_
      rintro e w1 ⟨rfl, ho1, hg1⟩
      have HE : Hid (q + (r.length : Int) = numE (t.take (j + 1)) k) := Lib.hid (by rw [numE_step HRJ.out, EQ.out])
      have HM2 : Hid (Hold BoolV 4 lo hi w1 (some ⟨g, 0, none⟩) (midT flagOf t k (j + 1))) := Lib.hid (fun _ => ⟨g, vs, rfl, by
        rw [← midT_step _ HRJ.out, EQ.out]
        exact HTT.out.turnrow HMID.out (by rw [numL_len]) (by rw [numL_len, HV.out]; exact ho1) (by rw [HV.out]; exact hg1)⟩)
      have HT2 : Hid (Turns lo hi w w1) := Lib.hid (HT.out.trans (Turns.grown hg1 fun b hb => ⟨(hrow.lt b hb).1, (HTT.out.top j b (by rw [midT_len _ _ _ hj]; exact hlt) (by rw [HV.out]; exact hb)).1⟩))
      clear ho1 hg1 hrow hcell HTT HM HT
      go_wp2_with fail
      go_roundw
      case rel => exact ⟨j + 1, by omega, by go_num, by rw [HE.out], HM2, HT2⟩
      case measure => simp [intOf]; omega
    · obtain rfl : j = t.length := by omega
      go_wp2_with fail
      go_ret
      refine ⟨ret_int (by rw [← EQ.out, List.take_length]), ?_, HT.out⟩
      rw [← midT_all]
      exact HM.out
set_option maxHeartbeats 400000 in
theorem heldBoolSS_any (A : Option Addr) (c : Nat) (t : List (List Bool)) (k : Int) (w : World) (hx : Tab BoolV w A (numT flagOf t k)) (hl : t.length ≤ 1048576) (hr : ∀ r ∈ t, r.length ≤ 1048576) (k0 : 0 ≤ k) (k1 : k ≤ 1) :
    Calls Try.prog 46 #[.slice A t.length c, .int .i64 k] w fun e w' => e = .returned (.int .i64 (numE t k)) ∧ Qu w w' := by
  have HR := Lib.hid hr
  clear hr
  go_enter Try.func46, Try.ntmps46
  go_wp2_with fail
  go_loopw [1, 5] (fun v i wr => ∃ j : Nat, j ≤ t.length ∧ i = .int .i64 j ∧ v = .int .i64 (numE (t.take j) k) ∧ Hid (Qu w wr)) (fun _ i _ => t.length - (intOf i).toNat)
  case atStart => exact ⟨0, Nat.zero_le _, rfl, by simp [numE], Lib.hid (Qu.refl _)⟩
  case round =>
    obtain ⟨j, hj, rfl, rfl, HQ⟩ := hrel
    obtain ⟨wo, rfl⟩ : ∃ wo : World, wo = wr := ⟨_, rfl⟩
    have b0 := numE_ge (t.take j) k
    have b1 := numE_le HR.out j k
    have b2 : t.length * 1048576 ≤ 1048576 * 1048576 := Nat.mul_le_mul hl (Nat.le_refl _)
    obtain ⟨q, eq⟩ : ∃ q, numE (t.take j) k = q := ⟨_, rfl⟩
    rw [eq] at b0 b1
    have q1 : q ≤ 1100000000000 := by omega
    have q0 : 0 ≤ q := by omega
    have EQ := Lib.hid eq
    rw [eq]
    clear b0 b1 b2 eq
    by_cases hlt : j < t.length
    · obtain ⟨b, o, r, Ar, cr, rfl, hb, hrk, hc, hL⟩ := (hx.below HQ.out.below).at_ (k := j) (by rw [numT_len]; exact hlt)
      have hrj := List.getElem?_eq_getElem hlt
      obtain ⟨r0, er⟩ : ∃ r, t[j] = r := ⟨_, rfl⟩
      rw [er] at hrj
      rw [numT_get _ _ _ _ _ hrj, EQ.out] at hrk
      injection hrk with hrk
      subst hrk
      have hrl := HR.out r0 (List.mem_of_getElem? hrj)
      rw [numL_len] at hc
      have HE : Hid (q + (r0.length : Int) = numE (t.take (j + 1)) k) := Lib.hid (by rw [numE_step hrj, EQ.out])
      clear hrj er
      go_wp2_with fail
      refine (heldBoolS_any Ar r0.length cr q _ hL.1 hrl q0 (by omega)).mono ?_
      rintro e w1 ⟨rfl, hq1⟩
      have HQ1 := Lib.hid (HQ.out.trans hq1)
      have nn : decide (q + (r0.length : Int) < 0) = false := decide_eq_false (by omega)
      clear hq1 hL hc
      go_wp2_with fail
      go_roundw
      case rel => exact ⟨j + 1, by omega, by go_num, by rw [HE.out], HQ1⟩
      case measure => simp [intOf]; omega
    · obtain rfl : j = t.length := by omega
      go_wp2_with fail
      go_ret
      exact ⟨ret_int (by rw [← EQ.out, List.take_length]), HQ.out⟩
end Go.Proofs.Ytkneddahefhedaa
