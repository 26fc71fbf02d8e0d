/- The walk of the law FnTop: for every code it returns true and leaves old memory alone. -/
import Derived.Test.YtajdcjimpnheoaaWords
import Derived.Test.YtajdcjimpnheoaaTopI
import Derived.Test.YtajdcjimpnheoaaTopS2
import Derived.Test.YtajdcjimpnheoaaSumOf
import Derived.Test.YtajdcjimpnheoaaDPartsTop
import Derived.OpenShut
import Derived.Deep.RegionLaw
namespace Go.Proofs.Ytajdcjimpnheoaa.fnTop
open Go.RowKit
set_option linter.unusedVariables false

theorem facts {xs : List Int} {n : Int} (hv : partsValid xs = true) (hn : 0 ≤ n) : partsTop xs 0 = 0 ∧ 0 ≤ partsTop xs (n + 1) - partsTop xs n ∧ partsTop xs (n + 1) - partsTop xs n ≤ 100000 ∧ (0 < n → partsTop xs (n + 1) - partsTop xs n ≤ partsTop xs n - partsTop xs (n - 1)) := by
  obtain ⟨m, rfl⟩ := Int.eq_ofNat_of_zero_le hn
  have e0 : partsTop xs 0 = 0 := by rw [partsTop_yes hv (by omega)]; exact top_zero xs
  have e1 : partsTop xs ((m : Int) + 1) = top xs (m + 1) := partsTop_nat (n := m + 1) hv
  have e2 : partsTop xs (m : Int) = top xs m := partsTop_nat hv
  have r := nth_range (valid_mem hv) (by omega) m
  have s := top_succ xs m
  refine ⟨e0, by omega, by omega, fun hp => ?_⟩
  obtain ⟨j, rfl⟩ : ∃ j, m = j + 1 := ⟨m - 1, by omega⟩
  have e3 : partsTop xs (((j + 1 : Nat) : Int) - 1) = top xs j := by rw [show (((j + 1 : Nat) : Int) - 1) = (j : Int) by omega]; exact partsTop_nat hv
  have s2 := top_succ xs j
  have d := nth_desc (valid_nonneg hv) (show j ≤ j + 1 by omega)
  omega

set_option maxHeartbeats 1000000 in
theorem walk (A : Option Addr) (c : Nat) (bs : List Int) (w : World) (hx : Seq ByteV w A bs) (hl : bs.length ≤ maxLen) (hc : bs.length ≤ c) (hcm : c ≤ maxLen) (hw : ∀ n ∈ bs, (Lit.int .u8 n).wf = true) :
    Calls Try.prog 3 #[.slice A bs.length c] w (Yes w) := by
  have hby : ∀ b ∈ bs, 0 ≤ b ∧ b ≤ 255 := fun b hb => bounds_u8 (hw b hb)
  have HB := Lib.hid hby
  clear hw hby
  by_cases hbig : 1048576 < bs.length
  · unfold maxLen at hl
    go_enter Try.func3, Try.ntmps3
    go_wp2
    go_ret
    exact ⟨rfl, Below.refl _ _⟩
  have hb1 : decide (1048576 < (bs.length : Int)) = false := by simp; omega
  go_enter Try.func3, Try.ntmps3
  go_wp2_with fail
  refine (drawPartsTop_any A c bs _ hx hl hc hcm HB.out).mono ?_
  rintro e w1 ⟨A1, c1, xs, n, rfl, hlst, hd, hints, h1⟩
  clear hx hl hc hcm HB hb1
  have hlen := hd.1
  have HW := Lib.hid (drawn_wf hd)
  have HL1 := Lib.hid hlst
  clear hd hlst
  have hi0 := hints.1
  have hi1 := hints.2
  clear hints
  go_wp2_with fail
  refine (implPartsTop_g A1 c1 xs (n) _ HL1.out (by omega) HW.out (WalkArith.wf_i64 (by omega))).mono ?_
  rintro e w2 ⟨rfl, hb2⟩
  have h2 := h1.trans (hb2.mono h1.size)
  have HL2 := Lib.hid (HL1.out.below hb2)
  clear HL1
  go_wp2_with fail
  refine (specPartsTop_g A1 c1 xs (n) _ HL2.out (by omega) HW.out (WalkArith.wf_i64 (by omega))).mono ?_
  rintro e w3 ⟨rfl, hb3⟩
  have h3 := h2.trans (hb3.mono h2.size)
  have HL3 := Lib.hid (HL2.out.below hb3)
  clear HL2
  by_cases hneg : partsTop xs n < 0
  · go_wp2_with fail
    go_ret
    exact ⟨rfl, h3⟩
  have hv := (partsTop_ge hneg).1
  have hn0 := (partsTop_ge hneg).2
  have HV := Lib.hid hv
  have f := facts hv hn0
  have f0 : (partsTop xs 0 == 0) = true := by rw [f.1]; rfl
  have f1 := f.2.1
  have f2 := f.2.2.1
  have F3 := Lib.hid f.2.2.2
  have f4 : (partsTop xs 20 == tot xs) = true := by rw [top20 hv]; simp
  have r0 := partsTop_range xs n
  have r1 := partsTop_range xs (n + 1)
  have r2 := partsTop_range xs (n - 1)
  have r01 := r0.1
  have r02 := r0.2
  have r11 := r1.1
  have r12 := r1.2
  have r21 := r2.1
  have r22 := r2.2
  have hneg' : decide (partsTop xs n < 0) = false := decide_eq_false hneg
  clear hv f r0 r1 r2
  go_wp2_with fail
  refine (implPartsTop_g A1 c1 xs (n + 1) _ HL3.out (by omega) HW.out (WalkArith.wf_i64 (by omega))).mono ?_
  rintro e w4 ⟨rfl, hb4⟩
  have h4 := h3.trans (hb4.mono h3.size)
  have HL4 := Lib.hid (HL3.out.below hb4)
  clear HL3
  by_cases hp : 0 < n
  · have f3 := F3.out hp
    go_wp2_with fail
    refine (implPartsTop_g A1 c1 xs (n - 1) _ HL4.out (by omega) HW.out (WalkArith.wf_i64 (by omega))).mono ?_
    rintro e w5 ⟨rfl, hb5⟩
    have h5 := h4.trans (hb5.mono h4.size)
    have HL5 := Lib.hid (HL4.out.below hb5)
    clear HL4
    go_wp2_with fail
    refine (implPartsTop_g A1 c1 xs (0) _ HL5.out (by omega) HW.out (WalkArith.wf_i64 (by omega))).mono ?_
    rintro e w6 ⟨rfl, hb6⟩
    have h6 := h5.trans (hb6.mono h5.size)
    have HL6 := Lib.hid (HL5.out.below hb6)
    clear HL5
    go_wp2_with fail
    refine (implPartsTop_g A1 c1 xs (20) _ HL6.out (by omega) HW.out (WalkArith.wf_i64 (by omega))).mono ?_
    rintro e w7 ⟨rfl, hb7⟩
    have h7 := h6.trans (hb7.mono h6.size)
    have HL7 := Lib.hid (HL6.out.below hb7)
    clear HL6
    go_wp2_with fail
    refine (sumOf_any A1 c1 _ xs _ rfl HL7.out.1 (valid_mem HV.out) (by omega)).mono ?_
    rintro e w' ⟨rfl, rfl⟩
    go_wp2_with fail
    go_ret
    exact ⟨rfl, h7⟩
  · have hp' : decide (0 < n) = false := decide_eq_false hp
    go_wp2_with fail
    refine (implPartsTop_g A1 c1 xs (0) _ HL4.out (by omega) HW.out (WalkArith.wf_i64 (by omega))).mono ?_
    rintro e w5 ⟨rfl, hb5⟩
    have h5 := h4.trans (hb5.mono h4.size)
    have HL5 := Lib.hid (HL4.out.below hb5)
    clear HL4
    go_wp2_with fail
    refine (implPartsTop_g A1 c1 xs (20) _ HL5.out (by omega) HW.out (WalkArith.wf_i64 (by omega))).mono ?_
    rintro e w6 ⟨rfl, hb6⟩
    have h6 := h5.trans (hb6.mono h5.size)
    have HL6 := Lib.hid (HL5.out.below hb6)
    clear HL5
    go_wp2_with fail
    refine (sumOf_any A1 c1 _ xs _ rfl HL6.out.1 (valid_mem HV.out) (by omega)).mono ?_
    rintro e w' ⟨rfl, rfl⟩
    go_wp2_with fail
    go_ret
    exact ⟨rfl, h6⟩
end Go.Proofs.Ytajdcjimpnheoaa.fnTop
