/- Contracts of toIntSS and eqIntSS. -/
import Derived.Test.YtncnghmadeghlaaMadeT
import Derived.Test.YtncnghmadeghlaaToInts
namespace Go.Proofs.Ytncnghmadeghlaa
open Go.RowKit
set_option linter.unusedVariables false
theorem infoIntS : (Try.prog.info? 42).map (fun i => (i.zero, i.size, i.bytes)) = some (some (.slice none 0 0), 1, 24) := by kernel_rfl
set_option maxHeartbeats 400000 in
theorem toIntSS_any (A : Option Addr) (c : Nat) (t : List (List Int)) (w : World) (hx : Tab IntV w A t) (hl : t.length ≤ 1048576) (hr : ∀ r ∈ t, r.length ≤ 1048576) :
    Calls Try.prog 26 #[.slice A t.length c] w (MadeT IntV 3 w t) := by
  have hmk := run_make_row' (P := Try.prog) 24 42 (.slice none 0 0) 24 Try.underlying24 infoIntS rfl .i64 .i64 t.length (by omega) (by omega)
  have hst := Half.start (f := IntV) (T := 42) (E := 3) w t.length t (by unfold maxLen; omega)
  have HST := Lib.hid hst
  have HR := Lib.hid hr
  clear hst hr
  go_enter Try.func26, Try.ntmps26
  go_wp2_with fail
  go_loopw [4] (fun i wr => ∃ (k : Nat) (vs : Nat → Value), k ≤ t.length ∧ i = .int .i64 k ∧ Hid (Half IntV 42 3 w wr t.length k vs t)) (fun i _ => t.length - (intOf i).toNat)
  case atStart => exact ⟨0, _, Nat.zero_le _, rfl, HST⟩
  case round =>
    obtain ⟨k, vs, hk, rfl, HH⟩ := hrel
    obtain ⟨wo, rfl⟩ : ∃ wo : World, wo = wr := ⟨_, rfl⟩
    by_cases hlt : k < t.length
    · obtain ⟨b, o, r, Ar, cr, rfl, hb, hrk, hc, hL⟩ := (hx.below HH.out.bel).at_ hlt
      have hrl := HR.out r (List.mem_of_getElem? hrk)
      have HRK := Lib.hid hrk
      clear hrk
      go_wp2_with fail
      refine (toIntS_any Ar cr r _ hL.1 hrl).mono ?_
      rintro e w1 ⟨A1, c1, rfl, ho1, hb1⟩
      have hs := HH.out.step hlt HRK.out ho1 hb1
      have HS := Lib.hid hs
      have hout := own_below HH.out.outer hb1
      obtain ⟨y, hy⟩ : ∃ y, w1.cell? ⟨w.heap.size, k, none⟩ = some y := by
        rw [hout.cellAt k (by omega)]
        exact ⟨_, List.getElem?_eq_getElem (by simp; omega)⟩
      have hf := hout.frozenAt k
      clear hs hout ho1 hL hc
      go_wp2_with fail
      go_roundw
      case rel => exact ⟨k + 1, _, by omega, by go_num, HS⟩
      case measure => simp [intOf]; omega
    · obtain rfl : k = t.length := by omega
      go_wp2_with fail
      go_ret
      exact ⟨_, _, vs, rfl, ⟨Nat.le_refl _, by unfold maxLen; omega⟩, HH.out.done, HH.out.bel⟩

set_option maxHeartbeats 400000 in
theorem eqIntSS_any (A B : Option Addr) (c d : Nat) (t s : List (List Int)) (w : World) (hx : Tab IntV w A t) (hy : Tab IntV w B s) (hl : t.length ≤ maxLen) :
    Calls Try.prog 19 #[.slice A t.length c, .slice B s.length d] w fun e w' => e = .returned (.bool (eqT t s)) ∧ Qu w w' := by
  unfold maxLen at hl
  by_cases hn : t.length = s.length
  · have hne : ((t.length : Int) != (s.length : Int)) = false := by simp [hn]
    have HN := Lib.hid hn
    clear hn
    go_enter Try.func19, Try.ntmps19
    go_wp2_with fail
    go_loopw [5] (fun i wr => ∃ k : Nat, k ≤ t.length ∧ i = .int .i64 k ∧ Hid (t.take k = s.take k) ∧ Hid (Qu w wr)) (fun i _ => t.length - (intOf i).toNat)
    case atStart => exact ⟨0, Nat.zero_le _, rfl, Lib.hid rfl, Lib.hid (Qu.refl _)⟩
    case round =>
      obtain ⟨k, hk, rfl, HP, HQ⟩ := hrel
      by_cases hlt : k < t.length
      · obtain ⟨b, o, x, Ax, cx, rfl, hb, hxk, hc, hLx⟩ := (hx.below HQ.out.below).at_ hlt
        have hlt' : k < s.length := by have := HN.out; omega
        obtain ⟨b', o', y, Ay, cy, rfl, hb', hyk, hc', hLy⟩ := (hy.below HQ.out.below).at_ hlt'
        have g1 : (k : Int) < (t.length : Int) := by omega
        have g2 : (k : Int) < (s.length : Int) := by omega
        have HX := Lib.hid hxk
        have HY := Lib.hid hyk
        have HCX := Lib.hid hLx
        have HCY := Lib.hid hLy
        have hml : x.length ≤ maxLen := by have h1 := hLx.2.1; have h2 := hLx.2.2.1; omega
        have HM := Lib.hid hml
        have hcall : ∀ m : Nat, Calls Try.prog 49 #[.slice Ax x.length cx, .slice Ay y.length cy] (wr.drewN m) fun e w' => e = .returned (.bool (eqInts x y)) ∧ ∃ n, w' = (wr.drewN m).drewN n := fun m =>
          (eqIntS_any Ax Ay cx cy x y (wr.drewN m) (HCX.out.1.drewN m) (HCY.out.1.drewN m) HM.out).mono fun e w' ⟨h1, n, h2⟩ => ⟨h1, n, h2⟩
        have HC := Lib.hid hcall
        clear hxk hyk hLx hLy hml hcall
        by_cases hxy : x = y
        · have h1 : eqInts x y = true := by simp [eqInts, hxy]
          have HXY := Lib.hid hxy
          clear hxy
          go_wp2_with fail
          go_quiet ((go_at_call 49; exact Calls.quiet_of (HC.out _)))
          go_wp2_with fail
          go_roundw
          case rel => exact ⟨k + 1, by omega, by go_num, Lib.hid (eqT_step HX.out HY.out HP.out HXY.out), Lib.hid (HQ.out.drewN _)⟩
          case measure => simp [intOf]; omega
        · have h1 : eqInts x y = false := by simp [eqInts, hxy]
          go_wp2_with fail
          go_quiet ((go_at_call 49; exact Calls.quiet_of (HC.out _)))
          go_wp2_with fail
          go_ret
          exact ⟨ret_bool (eqT_bad HX.out HY.out hxy).symm, HQ.out.drewN _⟩
      · go_wp2_with fail
        go_ret
        exact ⟨ret_bool (eqT_end HN.out hlt HP.out).symm, HQ.out⟩
  · have hne : ((t.length : Int) != (s.length : Int)) = true := by simp; omega
    go_enter Try.func19, Try.ntmps19
    go_wp2_with fail
    go_ret
    exact ⟨ret_bool (eqT_len hn).symm, Qu.refl _⟩
end Go.Proofs.Ytncnghmadeghlaa
