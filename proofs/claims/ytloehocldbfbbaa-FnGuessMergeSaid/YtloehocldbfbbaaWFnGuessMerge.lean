/- The walk of the law FnGuessMerge: for every code it returns true and leaves old memory alone. -/
import Derived.Test.YtloehocldbfbbaaGuessW
import Derived.Test.YtloehocldbfbbaaLeadI
import Derived.Test.YtloehocldbfbbaaGuessS
import Derived.Test.YtloehocldbfbbaaDPartsGuess
import Derived.OpenShut
import Derived.Deep.RegionLaw
namespace Go.Proofs.Ytloehocldbfbbaa.fnGuessMerge
open Go.RowKit
set_option linter.unusedVariables false

theorem nonempty {xs : List Int} {p : Int} (h : partsGuess xs p = true) : 0 < xs.length := by
  rcases Nat.eq_zero_or_pos xs.length with h0 | h0
  · obtain rfl : xs = [] := List.eq_nil_of_length_eq_zero h0
    have := (guess_iff.1 h).2.2
    simp [need, top, srt, tot] at this
  · exact h0
theorem three_valid {xs : List Int} {m : Int} (hv : partsValid xs = true) (hl : xs.length + 3 ≤ 20) (hm : 0 ≤ m ∧ m ≤ 100000) : partsValid (xs ++ [m, m, m]) = true ∧ top xs 1 ≤ top (xs ++ [m, m, m]) 1 := by
  have e : xs ++ [m, m, m] = ((xs ++ [m]) ++ [m]) ++ [m] := by simp
  have h1 := snoc_valid hv (by omega) hm
  have h2 := snoc_valid h1 (by simp; omega) hm
  have h3 := snoc_valid h2 (by simp; omega) hm
  rw [e]
  refine ⟨h3, ?_⟩
  have a1 := (top_add (valid_nonneg hv) hm.1 1).1
  have a2 := (top_add (valid_nonneg h1) hm.1 1).1
  have a3 := (top_add (valid_nonneg h2) hm.1 1).1
  omega
theorem more_no {ys : List Int} {m p : Int} (hv : partsValid ys = true) (hp : 0 ≤ p ∧ p ≤ 100) (h : partsGuess ys p = false) (hm : 0 ≤ m) (hm1 : m ≤ top ys 1) : partsGuess (ys ++ [m]) p = false := by
  refine no_guess ?_
  have h1 := need_add (p := p) hv hm hm1
  rcases Int.lt_or_le 0 (need ys p) with h0 | h0
  · rw [guess_iff.2 ⟨hv, hp, h0⟩] at h
    cases h
  · omega

set_option maxHeartbeats 1000000 in
theorem walk (A : Option Addr) (c : Nat) (bs : List Int) (w : World) (hx : Seq ByteV w A bs) (hl : bs.length ≤ maxLen) (hc : bs.length ≤ c) (hcm : c ≤ maxLen) (hw : ∀ n ∈ bs, (Lit.int .u8 n).wf = true) :
    Calls Try.prog 7 #[.slice A bs.length c] w (Yes w) := by
  have hby : ∀ b ∈ bs, 0 ≤ b ∧ b ≤ 255 := fun b hb => bounds_u8 (hw b hb)
  have HB := Lib.hid hby
  clear hw hby
  by_cases hbig : 1048576 < bs.length
  · unfold maxLen at hl
    go_enter Try.func7, Try.ntmps7
    go_wp2
    go_ret
    exact ⟨rfl, Below.refl _ _⟩
  have hb1 : decide (1048576 < (bs.length : Int)) = false := by simp; omega
  go_enter Try.func7, Try.ntmps7
  go_wp2_with fail
  refine (drawPartsGuess_any A c bs _ hx hl hc hcm HB.out).mono ?_
  rintro e w1 ⟨A1, c1, xs, p, rfl, hlst, hd, hints, h1⟩
  clear hx hl hc hcm HB hb1
  have hlen := hd.1
  have HW := Lib.hid (drawn_wf hd)
  have HL1 := Lib.hid hlst
  clear hd hlst
  have hi0 := hints.1
  have hi1 := hints.2
  clear hints
  go_wp2_with fail
  refine (implPartsGuess_g A1 c1 xs (p) _ HL1.out (by omega) HW.out (WalkArith.wf_i64 (by omega))).mono ?_
  rintro e w2 ⟨rfl, hb2⟩
  have h2 := h1.trans (hb2.mono h1.size)
  have HL2 := Lib.hid (HL1.out.below hb2)
  clear HL1
  go_wp2_with fail
  refine (specPartsGuess_g A1 c1 xs (p) _ HL2.out (by omega) HW.out (WalkArith.wf_i64 (by omega))).mono ?_
  rintro e w3 ⟨rfl, hb3⟩
  have h3 := h2.trans (hb3.mono h2.size)
  have HL3 := Lib.hid (HL2.out.below hb3)
  clear HL2
  cases hv : partsGuess xs p
  · go_wp2_with fail
    go_ret
    exact ⟨rfl, h3⟩
  have HV0 := Lib.hid hv
  have HV := Lib.hid (guess_iff.1 HV0.out).1
  have HP := Lib.hid (guess_iff.1 HV0.out).2.1
  have t0 := (top1_range HV.out).1
  have t1 := (top1_range HV.out).2
  have hne := nonempty HV0.out
  clear hv
  go_wp2_with fail
  refine (implTop_v A1 c1 xs (1) 1 _ rfl (by omega) HL3.out HV.out).mono ?_
  rintro e w4 ⟨rfl, hb4⟩
  have h4 := h3.trans (hb4.mono h3.size)
  have HL4 := Lib.hid (HL3.out.below hb4)
  clear HL3
  go_wp2_with (at_builtin; refine appFresh (f := IntV) (.tmp 36) (.tmp 37) _ rfl (by rfl) w4 3 (.int .i64 0) 8 Try.underlying23 infoInt' rfl rfl A1 _ c1 xs rfl rfl HL4.out (fun _ => rfl) (by omega) (by omega) ?_)
  intro Aus cus us w5 HQus ho5 hb5
  have hlenus : us.length ≤ 26 := by rw [HQus.out]; omega
  have h5 := h4.trans (hb5.mono h4.size)
  have HL5 := Lib.hid (HL4.out.below hb5)
  have HWus : Hid (∀ n ∈ us, (Lit.int .i64 n).wf = true) := Lib.hid (by rw [HQus.out]; exact HW.out)
  have hz5 := hb5.size
  have hal5 : Below w4.heap.size w5 (w5.alloc (.cells #[.int .i64 (top xs 1 / 2), .int .i64 (top xs 1 / 2), .int .i64 (top xs 1 / 2)] 3)) := (Below.refl _ _).alloc hz5 _
  go_wp2_with (at_builtin; refine appN (f := IntV) (.tmp 38) (.tmp 42) _ rfl (by rfl) _ w4.heap.size 3 (.int .i64 0) 8 Try.underlying23 infoInt' rfl Aus _ cus us rfl rfl (ho5.alloc _) (some ⟨w5.heap.size, 0, none⟩) 3 3 [top xs 1 / 2, top xs 1 / 2, top xs 1 / 2] rfl rfl (Lst.lit w5 3 _ [top xs 1 / 2, top xs 1 / 2, top xs 1 / 2] 3 rfl rfl (by omega)) (fun _ => rfl) (by omega) (by omega) (by omega) (by simp; omega) ?_)
  intro Ays cys ys w6 HQys ho6 hc6'
  have hc6 := hal5.trans hc6'
  clear hal5 hc6'
  have hlenys : ys.length ≤ 30 := by rw [HQys.out]; simp; omega
  have HWys : Hid (∀ n ∈ ys, (Lit.int .i64 n).wf = true) := Lib.hid (by rw [HQys.out]; exact wf_app HWus.out (fun z hz => WalkArith.wf_i64 (by simp at hz; omega)))
  have hb6 := hb5.trans hc6
  have h6 := h4.trans (hb6.mono h4.size)
  have HL6 := Lib.hid (HL4.out.below hb6)
  have HLys6 := Lib.hid (Lst.of_own ho6)
  clear ho6
  have hyl : ys.length = xs.length + 3 := by rw [HQys.out, HQus.out]; simp
  have HYL := Lib.hid hyl
  clear hyl
  by_cases h20 : 20 ≤ ys.length
  · skip
    go_wp2_with fail
    go_ret
    exact ⟨rfl, h6⟩
  · have h20' : decide (20 ≤ (ys.length : Int)) = false := decide_eq_false (by omega)
    go_wp2_with fail
    refine (implPartsGuess_g Ays cys ys (p) _ HLys6.out (by omega) HWys.out (WalkArith.wf_i64 (by omega))).mono ?_
    rintro e w7 ⟨rfl, hb7⟩
    have h7 := h6.trans (hb7.mono h6.size)
    have HL7 := Lib.hid (HL6.out.below hb7)
    clear HL6
    have HLys7 := Lib.hid (HLys6.out.below hb7)
    clear HLys6
    cases hg : partsGuess ys p
    · have tv := three_valid HV.out (by have := HYL.out; omega) (show 0 ≤ top xs 1 / 2 ∧ top xs 1 / 2 ≤ 100000 by omega)
      have hyq : ys = xs ++ [top xs 1 / 2, top xs 1 / 2, top xs 1 / 2] := by rw [HQys.out, HQus.out]
      rw [← hyq] at tv
      have HTV := Lib.hid tv
      have HG := Lib.hid hg
      clear tv hyq
      go_wp2_with (at_builtin; refine appFresh (f := IntV) (.tmp 55) (.tmp 56) _ rfl (by rfl) w7 3 (.int .i64 0) 8 Try.underlying23 infoInt' rfl rfl Ays _ cys ys rfl rfl HLys7.out (fun _ => rfl) (by omega) (by omega) ?_)
      intro Avs cvs vs w8 HQvs ho8 hb8
      have hlenvs : vs.length ≤ 26 := by rw [HQvs.out]; omega
      have h8 := h7.trans (hb8.mono h7.size)
      have HL8 := Lib.hid (HL7.out.below hb8)
      have HLys8 := Lib.hid (HLys7.out.below hb8)
      have HWvs : Hid (∀ n ∈ vs, (Lit.int .i64 n).wf = true) := Lib.hid (by rw [HQvs.out]; exact HWys.out)
      have hz8 := hb8.size
      go_wp2_with (at_builtin; refine appOne (f := IntV) (.tmp 57) (.tmp 59) _ rfl (by rfl) w8 w7.heap.size 3 (.int .i64 0) 8 Try.underlying23 infoInt' rfl Avs _ cvs vs rfl rfl ho8 (top xs 1 / 2) rfl (fun _ => rfl) (by omega) (by omega) hz8 ?_)
      intro Ads cds ds w9 HQds ho9 hc9
      have hlends : ds.length ≤ 30 := by rw [HQds.out]; simp; omega
      have HWds : Hid (∀ n ∈ ds, (Lit.int .i64 n).wf = true) := Lib.hid (by rw [HQds.out]; exact wf_snoc HWvs.out (WalkArith.wf_i64 (by omega)))
      have hb9 := hb8.trans hc9
      have h9 := h7.trans (hb9.mono h7.size)
      have HL9 := Lib.hid (HL7.out.below hb9)
      have HLys9 := Lib.hid (HLys7.out.below hb9)
      have HLds9 := Lib.hid (Lst.of_own ho9)
      clear ho9
      have f1 : partsGuess ds p = false := by rw [HQds.out, HQvs.out]; exact more_no HTV.out.1 HP.out HG.out (by omega) (by have := HTV.out.2; omega)
      go_wp2_with fail
      refine (implPartsGuess_g Ads cds ds (p) _ HLds9.out (by omega) HWds.out (WalkArith.wf_i64 (by omega))).mono ?_
      rintro e w10 ⟨rfl, hb10⟩
      have h10 := h9.trans (hb10.mono h9.size)
      have HL10 := Lib.hid (HL9.out.below hb10)
      clear HL9
      have HLys10 := Lib.hid (HLys9.out.below hb10)
      clear HLys9
      have HLds10 := Lib.hid (HLds9.out.below hb10)
      clear HLds9
      go_wp2_with (at_builtin; refine appFresh (f := IntV) (.tmp 65) (.tmp 66) _ rfl (by rfl) w10 3 (.int .i64 0) 8 Try.underlying23 infoInt' rfl rfl Ays _ cys ys rfl rfl HLys10.out (fun _ => rfl) (by omega) (by omega) ?_)
      intro Avt cvt vt w11 HQvt ho11 hb11
      have hlenvt : vt.length ≤ 26 := by rw [HQvt.out]; omega
      have h11 := h10.trans (hb11.mono h10.size)
      have HL11 := Lib.hid (HL10.out.below hb11)
      have HLys11 := Lib.hid (HLys10.out.below hb11)
      have HLds11 := Lib.hid (HLds10.out.below hb11)
      have HWvt : Hid (∀ n ∈ vt, (Lit.int .i64 n).wf = true) := Lib.hid (by rw [HQvt.out]; exact HWys.out)
      have hz11 := hb11.size
      go_wp2_with (at_builtin; refine appOne (f := IntV) (.tmp 67) (.tmp 70) _ rfl (by rfl) w11 w10.heap.size 3 (.int .i64 0) 8 Try.underlying23 infoInt' rfl Avt _ cvt vt rfl rfl ho11 (top xs 1 / 2 / 2) rfl (fun _ => rfl) (by omega) (by omega) hz11 ?_)
      intro Aes ces es w12 HQes ho12 hc12
      have hlenes : es.length ≤ 30 := by rw [HQes.out]; simp; omega
      have HWes : Hid (∀ n ∈ es, (Lit.int .i64 n).wf = true) := Lib.hid (by rw [HQes.out]; exact wf_snoc HWvt.out (WalkArith.wf_i64 (by omega)))
      have hb12 := hb11.trans hc12
      have h12 := h10.trans (hb12.mono h10.size)
      have HL12 := Lib.hid (HL10.out.below hb12)
      have HLys12 := Lib.hid (HLys10.out.below hb12)
      have HLds12 := Lib.hid (HLds10.out.below hb12)
      have HLes12 := Lib.hid (Lst.of_own ho12)
      clear ho12
      have f2 : partsGuess es p = false := by rw [HQes.out, HQvt.out]; exact more_no HTV.out.1 HP.out HG.out (by omega) (by have := HTV.out.2; omega)
      go_wp2_with fail
      refine (implPartsGuess_g Aes ces es (p) _ HLes12.out (by omega) HWes.out (WalkArith.wf_i64 (by omega))).mono ?_
      rintro e w13 ⟨rfl, hb13⟩
      have h13 := h12.trans (hb13.mono h12.size)
      have HL13 := Lib.hid (HL12.out.below hb13)
      clear HL12
      have HLys13 := Lib.hid (HLys12.out.below hb13)
      clear HLys12
      have HLds13 := Lib.hid (HLds12.out.below hb13)
      clear HLds12
      have HLes13 := Lib.hid (HLes12.out.below hb13)
      clear HLes12
      go_wp2_with fail
      go_ret
      exact ⟨rfl, h13⟩
    · have HG := Lib.hid hg
      go_wp2_with fail
      go_ret
      exact ⟨rfl, h7⟩
end Go.Proofs.Ytloehocldbfbbaa.fnGuessMerge
