/- The walk of the law FnLeadTwice: for every code it returns true and leaves old memory alone. -/
import Derived.Test.YtajdcjimpnheoaaWords
import Derived.Test.YtajdcjimpnheoaaLeadI
import Derived.Test.YtajdcjimpnheoaaLeadS2
import Derived.Test.YtajdcjimpnheoaaDPartsLead
import Derived.OpenShut
import Derived.Deep.RegionLaw
namespace Go.Proofs.Ytajdcjimpnheoaa.fnLeadTwice
open Go.RowKit
set_option linter.unusedVariables false

theorem lead_twice {xs : List Int} {n p : Int} (h : partsLead xs n p = true) (hv : partsValid (xs.map fun x => 2 * x) = true) : partsLead (xs.map fun x => 2 * x) n p = true := by
  rw [lead_iff] at h ⊢
  refine ⟨hv, h.2.1, h.2.2.1, ?_⟩
  rw [top_twice, tot_map2]
  have h2 : p * (2 * tot xs) = 2 * (p * tot xs) := by rw [← Int.mul_assoc, Int.mul_comm p 2, Int.mul_assoc]
  omega
theorem lead_zero {xs : List Int} {n p : Int} (h : partsLead xs n p = true) (hl : xs.length ≠ 20) : partsLead (xs ++ [0]) n p = true := by
  rw [lead_iff] at h ⊢
  have hv := valid_iff.1 h.1
  refine ⟨valid_of (fun x hx => ?_) (by simp; omega), h.2.1, h.2.2.1, ?_⟩
  · rcases List.mem_append.1 hx with hx | hx
    · exact hv.1 x hx
    · rw [List.mem_singleton] at hx; omega
  · rw [top_zero_add (valid_nonneg h.1), tot_append]
    simpa [tot] using h.2.2.2

set_option maxHeartbeats 1000000 in
theorem walk (A : Option Addr) (c : Nat) (bs : List Int) (w : World) (hx : Seq ByteV w A bs) (hl : bs.length ≤ maxLen) (hc : bs.length ≤ c) (hcm : c ≤ maxLen) (hw : ∀ n ∈ bs, (Lit.int .u8 n).wf = true) :
    Calls Try.prog 13 #[.slice A bs.length c] w (Yes w) := by
  have hby : ∀ b ∈ bs, 0 ≤ b ∧ b ≤ 255 := fun b hb => bounds_u8 (hw b hb)
  have HB := Lib.hid hby
  clear hw hby
  by_cases hbig : 1048576 < bs.length
  · unfold maxLen at hl
    go_enter Try.func13, Try.ntmps13
    go_wp2
    go_ret
    exact ⟨rfl, Below.refl _ _⟩
  have hb1 : decide (1048576 < (bs.length : Int)) = false := by simp; omega
  go_enter Try.func13, Try.ntmps13
  go_wp2_with fail
  refine (drawPartsLead_any A c bs _ hx hl hc hcm HB.out).mono ?_
  rintro e w1 ⟨A1, c1, xs, n, p, rfl, hlst, hd, hints, h1⟩
  clear hx hl hc hcm HB hb1
  have hlen := hd.1
  have HW := Lib.hid (drawn_wf hd)
  have HL1 := Lib.hid hlst
  clear hd hlst
  have hi0 := hints.1.1
  have hi1 := hints.1.2
  have hi2 := hints.2.1
  have hi3 := hints.2.2
  clear hints
  go_wp2_with fail
  refine (implPartsLead_g A1 c1 xs (n) (p) _ HL1.out (by omega) HW.out (WalkArith.wf_i64 (by omega)) (WalkArith.wf_i64 (by omega))).mono ?_
  rintro e w2 ⟨rfl, hb2⟩
  have h2 := h1.trans (hb2.mono h1.size)
  have HL2 := Lib.hid (HL1.out.below hb2)
  clear HL1
  go_wp2_with fail
  refine (specPartsLead_g A1 c1 xs (n) (p) _ HL2.out (by omega) HW.out (WalkArith.wf_i64 (by omega)) (WalkArith.wf_i64 (by omega))).mono ?_
  rintro e w3 ⟨rfl, hb3⟩
  have h3 := h2.trans (hb3.mono h2.size)
  have HL3 := Lib.hid (HL2.out.below hb3)
  clear HL2
  cases hv : partsLead xs n p
  · go_wp2_with fail
    go_ret
    exact ⟨rfl, h3⟩
  have HV0 := Lib.hid hv
  have HV := Lib.hid (lead_iff.1 HV0.out).1
  go_wp2_with fail
  go_loopw [8, 9] (fun v i wr => ∃ (A : Option Addr) (c : Nat) (k : Nat) (us : List Int), k ≤ xs.length ∧ i = .int .i64 k ∧ v = .slice A us.length c ∧ Hid (us = (xs.take k).map (fun x => 2 * x)) ∧ us.length ≤ 21 ∧ wr.ownsRow w3.heap.size 3 1 (.slice A us.length c) us.length (us.map IntV) ∧ Below w3.heap.size w3 wr) (fun _ i _ => xs.length - (intOf i).toNat)
  case atStart => exact ⟨_, _, 0, [], by omega, rfl, rfl, Lib.hid (by simp), by simp, own_empty w3 _, (Below.refl _ _).alloc (Nat.le_refl _) _⟩
  case round =>
    obtain ⟨Ays, cys, k4, ys, hk4, rfl, rfl, HU, hleys, ho4, hb4⟩ := hrel
    obtain ⟨w4, rfl⟩ : ∃ wo : World, wo = wr := ⟨_, rfl⟩
    by_cases hlt : k4 < xs.length
    · obtain ⟨b, o, x, hA4, hb, hxk, hcell⟩ := (HL3.out.below hb4).1.at_ hlt
      subst hA4
      have hx0 := (valid_mem HV.out x (List.mem_of_getElem? hxk)).1
      have hx1 := (valid_mem HV.out x (List.mem_of_getElem? hxk)).2
      have HX := Lib.hid hxk
      clear hxk
      go_wp2_with (at_builtin; refine appOne (f := IntV) (.tmp 44) (.tmp 50) _ rfl (by rfl) _ w3.heap.size 3 (.int .i64 0) 8 Try.underlying23 infoInt' rfl Ays _ cys ys rfl rfl ho4 (2 * x) rfl (fun _ => rfl) (by omega) (by omega) hb4.size ?_)
      intro A5 c5 vs w5' HVS ho5 hb5
      have hvs : vs = (xs.take (k4 + 1)).map (fun x => 2 * x) := by rw [HVS.out, HU.out, take_snoc' HX.out]; simp
      have hvl : vs.length ≤ 21 := by rw [hvs]; simp; omega
      have HVV := Lib.hid hvs
      clear hvs HVS
      go_wp2_with fail
      go_roundw
      case rel => exact ⟨A5, c5, k4 + 1, vs, by omega, by go_num, rfl, HVV, hvl, ho5, hb4.trans hb5⟩
      case measure => simp [intOf]; omega
    have HQys : Hid (ys = xs.map (fun x => 2 * x)) := Lib.hid (by rw [HU.out, List.take_of_length_le (by omega)])
    have HWys : Hid (∀ n ∈ ys, (Lit.int .i64 n).wf = true) := Lib.hid (fun n hn => by
      rw [HQys.out] at hn
      obtain ⟨x, hx, rfl⟩ := List.mem_map.1 hn
      have := valid_mem HV.out x hx
      exact WalkArith.wf_i64 (by omega))
    clear HU
    have h4 := h3.trans (hb4.mono h3.size)
    have HL4 := Lib.hid (HL3.out.below hb4)
    clear HL3
    have HLys4 := Lib.hid (Lst.of_own ho4)
    clear ho4
    go_wp2_with fail
    refine (implPartsValid_any Ays cys ys _ HLys4.out.1 (by unfold maxLen; omega)).mono ?_
    rintro e w' ⟨rfl, rfl⟩
    cases hvys : partsValid ys
    · have HVys := Lib.hid hvys
      by_cases h20 : xs.length = 20
      · have h20' : ((xs.length : Int) == 20) = true := by simp [h20]
        have H20 := Lib.hid h20
        clear h20
        go_wp2_with fail
        go_ret
        exact ⟨rfl, h4⟩
      · have h20' : ((xs.length : Int) == 20) = false := beq_eq_false_iff_ne.2 (by omega)
        have H20 := Lib.hid h20
        clear h20
        go_wp2_with (at_builtin; refine appFresh (f := IntV) (.tmp 66) (.tmp 67) _ rfl (by rfl) w4 3 (.int .i64 0) 8 Try.underlying23 infoInt' rfl rfl A1 _ c1 xs rfl rfl HL4.out (fun _ => rfl) (by omega) (by omega) ?_)
        intro Aus cus us w5 HQus ho5 hb5
        have hlenus : us.length ≤ 26 := by rw [HQus.out]; omega
        have h5 := h4.trans (hb5.mono h4.size)
        have HL5 := Lib.hid (HL4.out.below hb5)
        have HLys5 := Lib.hid (HLys4.out.below hb5)
        have HWus : Hid (∀ n ∈ us, (Lit.int .i64 n).wf = true) := Lib.hid (by rw [HQus.out]; exact HW.out)
        have hz5 := hb5.size
        go_wp2_with (at_builtin; refine appOne (f := IntV) (.tmp 68) (.tmp 69) _ rfl (by rfl) w5 w4.heap.size 3 (.int .i64 0) 8 Try.underlying23 infoInt' rfl Aus _ cus us rfl rfl ho5 (0) rfl (fun _ => rfl) (by omega) (by omega) hz5 ?_)
        intro Azs czs zs w6 HQzs ho6 hc6
        have hlenzs : zs.length ≤ 30 := by rw [HQzs.out]; simp; omega
        have HWzs : Hid (∀ n ∈ zs, (Lit.int .i64 n).wf = true) := Lib.hid (by rw [HQzs.out]; exact wf_snoc HWus.out (WalkArith.wf_i64 (by omega)))
        have hb6 := hb5.trans hc6
        have h6 := h4.trans (hb6.mono h4.size)
        have HL6 := Lib.hid (HL4.out.below hb6)
        have HLys6 := Lib.hid (HLys4.out.below hb6)
        have HLzs6 := Lib.hid (Lst.of_own ho6)
        clear ho6
        have f3 : partsLead zs n p = true := by rw [HQzs.out, HQus.out]; exact lead_zero HV0.out H20.out
        go_wp2_with fail
        refine (implPartsLead_g Azs czs zs (n) (p) _ HLzs6.out (by omega) HWzs.out (WalkArith.wf_i64 (by omega)) (WalkArith.wf_i64 (by omega))).mono ?_
        rintro e w7 ⟨rfl, hb7⟩
        have h7 := h6.trans (hb7.mono h6.size)
        have HL7 := Lib.hid (HL6.out.below hb7)
        clear HL6
        have HLys7 := Lib.hid (HLys6.out.below hb7)
        clear HLys6
        have HLzs7 := Lib.hid (HLzs6.out.below hb7)
        clear HLzs6
        go_wp2_with fail
        go_ret
        exact ⟨rfl, h7⟩
    · have HVys := Lib.hid hvys
      have f2 : partsLead ys n p = true := by
        have h := HVys.out
        rw [HQys.out] at h ⊢
        exact lead_twice HV0.out h
      go_wp2_with fail
      refine (implPartsLead_g Ays cys ys (n) (p) _ HLys4.out (by omega) HWys.out (WalkArith.wf_i64 (by omega)) (WalkArith.wf_i64 (by omega))).mono ?_
      rintro e w5 ⟨rfl, hb5⟩
      have h5 := h4.trans (hb5.mono h4.size)
      have HL5 := Lib.hid (HL4.out.below hb5)
      clear HL4
      have HLys5 := Lib.hid (HLys4.out.below hb5)
      clear HLys4
      by_cases h20 : xs.length = 20
      · have h20' : ((xs.length : Int) == 20) = true := by simp [h20]
        have H20 := Lib.hid h20
        clear h20
        go_wp2_with fail
        go_ret
        exact ⟨rfl, h5⟩
      · have h20' : ((xs.length : Int) == 20) = false := beq_eq_false_iff_ne.2 (by omega)
        have H20 := Lib.hid h20
        clear h20
        go_wp2_with (at_builtin; refine appFresh (f := IntV) (.tmp 66) (.tmp 67) _ rfl (by rfl) w5 3 (.int .i64 0) 8 Try.underlying23 infoInt' rfl rfl A1 _ c1 xs rfl rfl HL5.out (fun _ => rfl) (by omega) (by omega) ?_)
        intro Aus cus us w6 HQus ho6 hb6
        have hlenus : us.length ≤ 26 := by rw [HQus.out]; omega
        have h6 := h5.trans (hb6.mono h5.size)
        have HL6 := Lib.hid (HL5.out.below hb6)
        have HLys6 := Lib.hid (HLys5.out.below hb6)
        have HWus : Hid (∀ n ∈ us, (Lit.int .i64 n).wf = true) := Lib.hid (by rw [HQus.out]; exact HW.out)
        have hz6 := hb6.size
        go_wp2_with (at_builtin; refine appOne (f := IntV) (.tmp 68) (.tmp 69) _ rfl (by rfl) w6 w5.heap.size 3 (.int .i64 0) 8 Try.underlying23 infoInt' rfl Aus _ cus us rfl rfl ho6 (0) rfl (fun _ => rfl) (by omega) (by omega) hz6 ?_)
        intro Azs czs zs w7 HQzs ho7 hc7
        have hlenzs : zs.length ≤ 30 := by rw [HQzs.out]; simp; omega
        have HWzs : Hid (∀ n ∈ zs, (Lit.int .i64 n).wf = true) := Lib.hid (by rw [HQzs.out]; exact wf_snoc HWus.out (WalkArith.wf_i64 (by omega)))
        have hb7 := hb6.trans hc7
        have h7 := h5.trans (hb7.mono h5.size)
        have HL7 := Lib.hid (HL5.out.below hb7)
        have HLys7 := Lib.hid (HLys5.out.below hb7)
        have HLzs7 := Lib.hid (Lst.of_own ho7)
        clear ho7
        have f3 : partsLead zs n p = true := by rw [HQzs.out, HQus.out]; exact lead_zero HV0.out H20.out
        go_wp2_with fail
        refine (implPartsLead_g Azs czs zs (n) (p) _ HLzs7.out (by omega) HWzs.out (WalkArith.wf_i64 (by omega)) (WalkArith.wf_i64 (by omega))).mono ?_
        rintro e w8 ⟨rfl, hb8⟩
        have h8 := h7.trans (hb8.mono h7.size)
        have HL8 := Lib.hid (HL7.out.below hb8)
        clear HL7
        have HLys8 := Lib.hid (HLys7.out.below hb8)
        clear HLys7
        have HLzs8 := Lib.hid (HLzs7.out.below hb8)
        clear HLzs7
        go_wp2_with fail
        go_ret
        exact ⟨rfl, h8⟩
end Go.Proofs.Ytajdcjimpnheoaa.fnLeadTwice
