/- The walk of the law FnSpareLess: for every code it returns true and leaves old memory alone. -/
import Derived.Test.YtloehocldbfbbaaGuessW
import Derived.Test.YtloehocldbfbbaaLeadI
import Derived.Test.YtloehocldbfbbaaLeadS
import Derived.Test.YtloehocldbfbbaaDPartsSpare
import Derived.OpenShut
import Derived.Deep.RegionLaw
namespace Go.Proofs.Ytloehocldbfbbaa.fnSpareLess
open Go.RowKit
set_option linter.unusedVariables false

theorem toolittle {xs : List Int} {p : Int} (hv : partsValid xs = true) (hp : 0 ≤ p ∧ p ≤ 100) (hl : xs.length + 1 ≤ 20) (h1 : 1 ≤ partsSpare xs p) (h : partsSpare xs p ≤ top xs 2 - top xs 1) : partsGuess (xs ++ [partsSpare xs p - 1]) p = true := by
  have h2 := spare_num hv hp
  have t := top1_range hv
  have n1 := nth_range (valid_mem hv) (by omega) 1
  rw [top2_nth] at h
  rw [guess_iff]
  refine ⟨snoc_valid hv hl (by omega), hp, ?_⟩
  rw [need_add2 hv (by omega) (by rw [top2_nth]; omega)]
  omega

set_option maxHeartbeats 1000000 in
theorem walk (A : Option Addr) (c : Nat) (bs : List Int) (w : World) (hx : Seq ByteV w A bs) (hl : bs.length ≤ maxLen) (hc : bs.length ≤ c) (hcm : c ≤ maxLen) (hw : ∀ n ∈ bs, (Lit.int .u8 n).wf = true) :
    Calls Try.prog 11 #[.slice A bs.length c] w (Yes w) := by
  have hby : ∀ b ∈ bs, 0 ≤ b ∧ b ≤ 255 := fun b hb => bounds_u8 (hw b hb)
  have HB := Lib.hid hby
  clear hw hby
  by_cases hbig : 1048576 < bs.length
  · unfold maxLen at hl
    go_enter Try.func11, Try.ntmps11
    go_wp2
    go_ret
    exact ⟨rfl, Below.refl _ _⟩
  have hb1 : decide (1048576 < (bs.length : Int)) = false := by simp; omega
  go_enter Try.func11, Try.ntmps11
  go_wp2_with fail
  refine (drawPartsSpare_any A c bs _ hx hl hc hcm HB.out).mono ?_
  rintro e w1 ⟨A1, c1, xs, p, rfl, hlst, hd, hints, h1⟩
  clear hx hl hc hcm HB hb1
  have hlen := hd.1
  have HW := Lib.hid (drawn_wf hd)
  have HL1 := Lib.hid hlst
  clear hd hlst
  have hi0 := hints.1
  have hi1 := hints.2
  clear hints
  go_wp2_with fail
  refine (implPartsSpare_g A1 c1 xs (p) _ HL1.out (by omega) HW.out (WalkArith.wf_i64 (by omega))).mono ?_
  rintro e w2 ⟨rfl, hb2⟩
  have h2 := h1.trans (hb2.mono h1.size)
  have HL2 := Lib.hid (HL1.out.below hb2)
  clear HL1
  go_wp2_with fail
  refine (specPartsSpare_g A1 c1 xs (p) _ HL2.out (by omega) HW.out (WalkArith.wf_i64 (by omega))).mono ?_
  rintro e w3 ⟨rfl, hb3⟩
  have h3 := h2.trans (hb3.mono h2.size)
  have HL3 := Lib.hid (HL2.out.below hb3)
  clear HL2
  have q0 := (spare_range xs p).1
  have q1 := (spare_range xs p).2
  by_cases hneg : partsSpare xs p < 1
  · go_wp2_with fail
    go_ret
    exact ⟨rfl, h3⟩
  have hs := spare_ge (xs := xs) (p := p) (by omega)
  have HV := Lib.hid hs.1
  have p0 := hs.2.1
  have p1 := hs.2.2
  have hneg' : decide (partsSpare xs p < 1) = false := decide_eq_false hneg
  clear hs
  have t0 := (top_range HV.out 1).1
  have t1 := (top_range HV.out 1).2
  have t2 := (top_range HV.out 2).1
  have t3 := (top_range HV.out 2).2
  go_wp2_with (at_builtin; refine appFresh (f := IntV) (.tmp 33) (.tmp 34) _ rfl (by rfl) w3 3 (.int .i64 0) 8 Try.underlying23 infoInt' rfl rfl A1 _ c1 xs rfl rfl HL3.out (fun _ => rfl) (by omega) (by omega) ?_)
  intro Aus cus us w4 HQus ho4 hb4
  have hlenus : us.length ≤ 26 := by rw [HQus.out]; omega
  have h4 := h3.trans (hb4.mono h3.size)
  have HL4 := Lib.hid (HL3.out.below hb4)
  have HWus : Hid (∀ n ∈ us, (Lit.int .i64 n).wf = true) := Lib.hid (by rw [HQus.out]; exact HW.out)
  have hz4 := hb4.size
  go_wp2_with (at_builtin; refine appOne (f := IntV) (.tmp 35) (.tmp 38) _ rfl (by rfl) w4 w3.heap.size 3 (.int .i64 0) 8 Try.underlying23 infoInt' rfl Aus _ cus us rfl rfl ho4 (partsSpare xs p - 1) rfl (fun _ => rfl) (by omega) (by omega) hz4 ?_)
  intro Azs czs zs w5 HQzs ho5 hc5
  have hlenzs : zs.length ≤ 30 := by rw [HQzs.out]; simp; omega
  have HWzs : Hid (∀ n ∈ zs, (Lit.int .i64 n).wf = true) := Lib.hid (by rw [HQzs.out]; exact wf_snoc HWus.out (WalkArith.wf_i64 (by omega)))
  have hb5 := hb4.trans hc5
  have h5 := h3.trans (hb5.mono h3.size)
  have HL5 := Lib.hid (HL3.out.below hb5)
  have HLzs5 := Lib.hid (Lst.of_own ho5)
  clear ho5
  have hzl : zs.length = xs.length + 1 := by rw [HQzs.out, HQus.out]; simp
  have HZL := Lib.hid hzl
  clear hzl
  go_wp2_with fail
  refine (implTop_v A1 c1 xs (2) 2 _ rfl (by omega) HL5.out HV.out).mono ?_
  rintro e w6 ⟨rfl, hb6⟩
  have h6 := h5.trans (hb6.mono h5.size)
  have HL6 := Lib.hid (HL5.out.below hb6)
  clear HL5
  have HLzs6 := Lib.hid (HLzs5.out.below hb6)
  clear HLzs5
  go_wp2_with fail
  refine (implTop_v A1 c1 xs (1) 1 _ rfl (by omega) HL6.out HV.out).mono ?_
  rintro e w7 ⟨rfl, hb7⟩
  have h7 := h6.trans (hb7.mono h6.size)
  have HL7 := Lib.hid (HL6.out.below hb7)
  clear HL6
  have HLzs7 := Lib.hid (HLzs6.out.below hb7)
  clear HLzs6
  by_cases h20 : 20 < zs.length
  · skip
    go_wp2_with fail
    go_ret
    exact ⟨rfl, h7⟩
  · have h20' : decide (20 < (zs.length : Int)) = false := decide_eq_false (by omega)
    by_cases hsec : top xs 2 - top xs 1 < partsSpare xs p
    · skip
      go_wp2_with fail
      go_ret
      exact ⟨rfl, h7⟩
    · skip
      have hs' : decide (top xs 2 - top xs 1 < partsSpare xs p) = false := decide_eq_false hsec
      have f1 : partsGuess zs p = true := by rw [HQzs.out, HQus.out]; exact toolittle HV.out ⟨p0, p1⟩ (by have := HZL.out; omega) (by omega) (by omega)
      go_wp2_with fail
      refine (implPartsGuess_g Azs czs zs (p) _ HLzs7.out (by omega) HWzs.out (WalkArith.wf_i64 (by omega))).mono ?_
      rintro e w8 ⟨rfl, hb8⟩
      have h8 := h7.trans (hb8.mono h7.size)
      have HL8 := Lib.hid (HL7.out.below hb8)
      clear HL7
      have HLzs8 := Lib.hid (HLzs7.out.below hb8)
      clear HLzs7
      go_wp2_with fail
      go_ret
      exact ⟨rfl, h8⟩
end Go.Proofs.Ytloehocldbfbbaa.fnSpareLess
