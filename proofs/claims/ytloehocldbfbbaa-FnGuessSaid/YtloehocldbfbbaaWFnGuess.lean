/- The walk of the law FnGuess: for every code it returns true and leaves old memory alone. -/
import Derived.Test.YtloehocldbfbbaaGuessW
import Derived.Test.YtloehocldbfbbaaLeadI
import Derived.Test.YtloehocldbfbbaaGuessS
import Derived.Test.YtloehocldbfbbaaDPartsGuess
import Derived.OpenShut
import Derived.Deep.RegionLaw
namespace Go.Proofs.Ytloehocldbfbbaa.fnGuess
open Go.RowKit
set_option linter.unusedVariables false

theorem more_p {xs : List Int} {p : Int} (h : partsGuess xs p = true) (hp : p ≠ 100) : partsGuess xs (p + 1) = true := by
  rw [guess_iff] at h ⊢
  have := (top1_range h.1).1
  rw [need_next]
  exact ⟨h.1, by omega, by omega⟩
theorem two_more {xs : List Int} {p : Int} (h : partsGuess xs p = true) (hl : xs.length + 2 ≤ 20) : partsGuess (xs ++ [top xs 1, top xs 1]) p = false := by
  have hg := guess_iff.1 h
  have hv := hg.1
  have ht := top1_range hv
  have hv1 := snoc_valid (m := top xs 1) hv (by omega) ht
  have hv2 := snoc_valid (xs := xs ++ [top xs 1]) (m := top xs 1) hv1 (by simp; omega) ht
  have e : xs ++ [top xs 1, top xs 1] = (xs ++ [top xs 1]) ++ [top xs 1] := by simp
  have a1 : top (xs ++ [top xs 1]) 1 = top xs 1 := top_keep (valid_nonneg hv) ht.1 0 (by rw [← top1_nth]; exact Int.le_refl _)
  have a2 : top ((xs ++ [top xs 1]) ++ [top xs 1]) 1 = top xs 1 := (top_keep (valid_nonneg hv1) ht.1 0 (by rw [← top1_nth, a1]; exact Int.le_refl _)).trans a1
  have b := top2_nth ((xs ++ [top xs 1]) ++ [top xs 1])
  have c := nth_desc (valid_nonneg hv2) (show 0 ≤ 1 by omega)
  rw [← top1_nth, a2] at c
  have d := top_le_tot (valid_nonneg hv) 1
  have m : top xs 1 * p ≤ top xs 1 * 100 := Int.mul_le_mul_of_nonneg_left hg.2.1.2 ht.1
  rw [e]
  refine no_guess ?_
  rw [need, a2, tot_snoc1, tot_snoc1]
  omega

set_option maxHeartbeats 1000000 in
theorem walk (A : Option Addr) (c : Nat) (bs : List Int) (w : World) (hx : Seq ByteV w A bs) (hl : bs.length ≤ maxLen) (hc : bs.length ≤ c) (hcm : c ≤ maxLen) (hw : ∀ n ∈ bs, (Lit.int .u8 n).wf = true) :
    Calls Try.prog 6 #[.slice A bs.length c] w (Yes w) := by
  have hby : ∀ b ∈ bs, 0 ≤ b ∧ b ≤ 255 := fun b hb => bounds_u8 (hw b hb)
  have HB := Lib.hid hby
  clear hw hby
  by_cases hbig : 1048576 < bs.length
  · unfold maxLen at hl
    go_enter Try.func6, Try.ntmps6
    go_wp2
    go_ret
    exact ⟨rfl, Below.refl _ _⟩
  have hb1 : decide (1048576 < (bs.length : Int)) = false := by simp; omega
  go_enter Try.func6, Try.ntmps6
  go_wp2_with fail
  refine (drawPartsGuess_any A c bs _ hx hl hc hcm HB.out).mono ?_
  rintro e w1 ⟨A1, c1, xs, p, rfl, hlst, hd, hints, h1⟩
  clear hx hl hc hcm HB hb1
  have hlen := hd.1
  have HW := Lib.hid (drawn_wf hd)
  have HL1 := Lib.hid hlst
  clear hd hlst
  have hi0 := hints.1
  have hi1 := hints.2
  clear hints
  go_wp2_with fail
  refine (implPartsGuess_g A1 c1 xs (p) _ HL1.out (by omega) HW.out (WalkArith.wf_i64 (by omega))).mono ?_
  rintro e w2 ⟨rfl, hb2⟩
  have h2 := h1.trans (hb2.mono h1.size)
  have HL2 := Lib.hid (HL1.out.below hb2)
  clear HL1
  go_wp2_with fail
  refine (specPartsGuess_g A1 c1 xs (p) _ HL2.out (by omega) HW.out (WalkArith.wf_i64 (by omega))).mono ?_
  rintro e w3 ⟨rfl, hb3⟩
  have h3 := h2.trans (hb3.mono h2.size)
  have HL3 := Lib.hid (HL2.out.below hb3)
  clear HL2
  cases hv : partsGuess xs p
  · go_wp2_with fail
    go_ret
    exact ⟨rfl, h3⟩
  have HV0 := Lib.hid hv
  have HV := Lib.hid (guess_iff.1 HV0.out).1
  have t0 := (top1_range HV.out).1
  have t1 := (top1_range HV.out).2
  clear hv
  go_wp2_with fail
  refine (implTop_v A1 c1 xs (1) 1 _ rfl (by omega) HL3.out HV.out).mono ?_
  rintro e w4 ⟨rfl, hb4⟩
  have h4 := h3.trans (hb4.mono h3.size)
  have HL4 := Lib.hid (HL3.out.below hb4)
  clear HL3
  go_wp2_with (at_builtin; refine appFresh (f := IntV) (.tmp 35) (.tmp 36) _ rfl (by rfl) w4 3 (.int .i64 0) 8 Try.underlying23 infoInt' rfl rfl A1 _ c1 xs rfl rfl HL4.out (fun _ => rfl) (by omega) (by omega) ?_)
  intro Aus cus us w5 HQus ho5 hb5
  have hlenus : us.length ≤ 26 := by rw [HQus.out]; omega
  have h5 := h4.trans (hb5.mono h4.size)
  have HL5 := Lib.hid (HL4.out.below hb5)
  have HWus : Hid (∀ n ∈ us, (Lit.int .i64 n).wf = true) := Lib.hid (by rw [HQus.out]; exact HW.out)
  have hz5 := hb5.size
  have hal5 : Below w4.heap.size w5 (w5.alloc (.cells #[.int .i64 (top xs 1), .int .i64 (top xs 1)] 3)) := (Below.refl _ _).alloc hz5 _
  go_wp2_with (at_builtin; refine appN (f := IntV) (.tmp 37) (.tmp 40) _ rfl (by rfl) _ w4.heap.size 3 (.int .i64 0) 8 Try.underlying23 infoInt' rfl Aus _ cus us rfl rfl (ho5.alloc _) (some ⟨w5.heap.size, 0, none⟩) 2 2 [top xs 1, top xs 1] rfl rfl (Lst.lit w5 3 _ [top xs 1, top xs 1] 2 rfl rfl (by omega)) (fun _ => rfl) (by omega) (by omega) (by omega) (by simp; omega) ?_)
  intro Azs czs zs w6 HQzs ho6 hc6'
  have hc6 := hal5.trans hc6'
  clear hal5 hc6'
  have hlenzs : zs.length ≤ 30 := by rw [HQzs.out]; simp; omega
  have HWzs : Hid (∀ n ∈ zs, (Lit.int .i64 n).wf = true) := Lib.hid (by rw [HQzs.out]; exact wf_app HWus.out (fun z hz => WalkArith.wf_i64 (by simp at hz; omega)))
  have hb6 := hb5.trans hc6
  have h6 := h4.trans (hb6.mono h4.size)
  have HL6 := Lib.hid (HL4.out.below hb6)
  have HLzs6 := Lib.hid (Lst.of_own ho6)
  clear ho6
  have hzl : zs.length = xs.length + 2 := by rw [HQzs.out, HQus.out]; simp
  have HZL := Lib.hid hzl
  clear hzl
  by_cases hp : p = 100
  · have hp' : (p == 100) = true := by simp [hp]
    have HP := Lib.hid hp
    clear hp
    by_cases h20 : 20 < zs.length
    · skip
      go_wp2_with fail
      go_ret
      exact ⟨rfl, h6⟩
    · skip
      have h20' : decide (20 < (zs.length : Int)) = false := decide_eq_false (by omega)
      have f3 : partsGuess zs p = false := by rw [HQzs.out, HQus.out]; exact two_more HV0.out (by have := HZL.out; omega)
      go_wp2_with fail
      refine (implPartsGuess_g Azs czs zs (p) _ HLzs6.out (by omega) HWzs.out (WalkArith.wf_i64 (by omega))).mono ?_
      rintro e w7 ⟨rfl, hb7⟩
      have h7 := h6.trans (hb7.mono h6.size)
      have HL7 := Lib.hid (HL6.out.below hb7)
      clear HL6
      have HLzs7 := Lib.hid (HLzs6.out.below hb7)
      clear HLzs6
      go_wp2_with fail
      go_ret
      exact ⟨rfl, h7⟩
  · have hp' : (p == 100) = false := beq_eq_false_iff_ne.2 (by omega)
    have f1 := more_p HV0.out hp
    have HP := Lib.hid hp
    clear hp
    go_wp2_with fail
    refine (implPartsGuess_g A1 c1 xs (p + 1) _ HL6.out (by omega) HW.out (WalkArith.wf_i64 (by omega))).mono ?_
    rintro e w7 ⟨rfl, hb7⟩
    have h7 := h6.trans (hb7.mono h6.size)
    have HL7 := Lib.hid (HL6.out.below hb7)
    clear HL6
    have HLzs7 := Lib.hid (HLzs6.out.below hb7)
    clear HLzs6
    by_cases h20 : 20 < zs.length
    · skip
      go_wp2_with fail
      go_ret
      exact ⟨rfl, h7⟩
    · skip
      have h20' : decide (20 < (zs.length : Int)) = false := decide_eq_false (by omega)
      have f3 : partsGuess zs p = false := by rw [HQzs.out, HQus.out]; exact two_more HV0.out (by have := HZL.out; omega)
      go_wp2_with fail
      refine (implPartsGuess_g Azs czs zs (p) _ HLzs7.out (by omega) HWzs.out (WalkArith.wf_i64 (by omega))).mono ?_
      rintro e w8 ⟨rfl, hb8⟩
      have h8 := h7.trans (hb8.mono h7.size)
      have HL8 := Lib.hid (HL7.out.below hb8)
      clear HL7
      have HLzs8 := Lib.hid (HLzs7.out.below hb8)
      clear HLzs7
      go_wp2_with fail
      go_ret
      exact ⟨rfl, h8⟩
end Go.Proofs.Ytloehocldbfbbaa.fnGuess
