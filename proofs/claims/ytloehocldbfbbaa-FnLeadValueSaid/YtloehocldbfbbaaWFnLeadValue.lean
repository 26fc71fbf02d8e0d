/- The walk of the law FnLeadValue: for every code it returns true and leaves old memory alone. -/
import Derived.Test.YtloehocldbfbbaaGuessW
import Derived.Test.YtloehocldbfbbaaLeadI
import Derived.Test.YtloehocldbfbbaaLeadS2
import Derived.Test.YtloehocldbfbbaaSumOf
import Derived.Test.YtloehocldbfbbaaDPartsLead
import Derived.OpenShut
import Derived.Deep.RegionLaw
namespace Go.Proofs.Ytloehocldbfbbaa.fnLeadValue
open Go.RowKit
set_option linter.unusedVariables false

theorem tot_pos {xs : List Int} {n p : Int} (h : partsLead xs n p = true) : 0 < tot xs := by
  rw [lead_iff] at h
  have h1 := top_le_tot (valid_nonneg h.1) n.toNat
  have h3 := (tot_range h.1).1
  have h2 : 0 ≤ p * tot xs := Int.mul_nonneg h.2.2.1.1 h3
  omega

set_option maxHeartbeats 1000000 in
theorem walk (A : Option Addr) (c : Nat) (bs : List Int) (w : World) (hx : Seq ByteV w A bs) (hl : bs.length ≤ maxLen) (hc : bs.length ≤ c) (hcm : c ≤ maxLen) (hw : ∀ n ∈ bs, (Lit.int .u8 n).wf = true) :
    Calls Try.prog 8 #[.slice A bs.length c] w (Yes w) := by
  have hby : ∀ b ∈ bs, 0 ≤ b ∧ b ≤ 255 := fun b hb => bounds_u8 (hw b hb)
  have HB := Lib.hid hby
  clear hw hby
  by_cases hbig : 1048576 < bs.length
  · unfold maxLen at hl
    go_enter Try.func8, Try.ntmps8
    go_wp2
    go_ret
    exact ⟨rfl, Below.refl _ _⟩
  have hb1 : decide (1048576 < (bs.length : Int)) = false := by simp; omega
  go_enter Try.func8, Try.ntmps8
  go_wp2_with fail
  refine (drawPartsLead_any A c bs _ hx hl hc hcm HB.out).mono ?_
  rintro e w1 ⟨A1, c1, xs, n, p, rfl, hlst, hd, hints, h1⟩
  clear hx hl hc hcm HB hb1
  have hlen := hd.1
  have HW := Lib.hid (drawn_wf hd)
  have HL1 := Lib.hid hlst
  clear hd hlst
  have hi0 := hints.1.1
  have hi1 := hints.1.2
  have hi2 := hints.2.1
  have hi3 := hints.2.2
  clear hints
  go_wp2_with fail
  refine (implPartsLead_g A1 c1 xs (n) (p) _ HL1.out (by omega) HW.out (WalkArith.wf_i64 (by omega)) (WalkArith.wf_i64 (by omega))).mono ?_
  rintro e w2 ⟨rfl, hb2⟩
  have h2 := h1.trans (hb2.mono h1.size)
  have HL2 := Lib.hid (HL1.out.below hb2)
  clear HL1
  go_wp2_with fail
  refine (specPartsLead_g A1 c1 xs (n) (p) _ HL2.out (by omega) HW.out (WalkArith.wf_i64 (by omega)) (WalkArith.wf_i64 (by omega))).mono ?_
  rintro e w3 ⟨rfl, hb3⟩
  have h3 := h2.trans (hb3.mono h2.size)
  have HL3 := Lib.hid (HL2.out.below hb3)
  clear HL2
  cases hv : partsLead xs n p
  · go_wp2_with fail
    go_ret
    exact ⟨rfl, h3⟩
  have HV0 := Lib.hid hv
  have hl := lead_iff.1 HV0.out
  have HV := Lib.hid hl.1
  have p0 := hl.2.2.1.1
  have p1 := hl.2.2.1.2
  obtain ⟨k, rfl⟩ := Int.eq_ofNat_of_zero_le (a := n) (by omega)
  have t0 := (top_range HV.out k).1
  have t1 := (top_range HV.out k).2
  have f1 : p * tot xs < top xs k * 100 := hl.2.2.2
  have f2 := tot_pos HV0.out
  have t3 := (tot_range HV.out).2
  have mm := mul_range (by omega) t3 p0 p1
  rw [Int.mul_comm] at mm
  have mm0 := mm.1
  have mm1 := mm.2
  clear hl mm hv
  go_wp2_with fail
  refine (implTop_v A1 c1 xs (k) k _ (by omega) (by omega) HL3.out HV.out).mono ?_
  rintro e w4 ⟨rfl, hb4⟩
  have h4 := h3.trans (hb4.mono h3.size)
  have HL4 := Lib.hid (HL3.out.below hb4)
  clear HL3
  go_wp2_with fail
  refine (sumOf_any A1 c1 _ xs _ rfl HL4.out.1 (valid_mem HV.out) (by omega)).mono ?_
  rintro e w' ⟨rfl, rfl⟩
  go_wp2_with fail
  refine (sumOf_any A1 c1 _ xs _ rfl HL4.out.1 (valid_mem HV.out) (by omega)).mono ?_
  rintro e w' ⟨rfl, rfl⟩
  go_wp2_with fail
  go_ret
  exact ⟨rfl, h4⟩
end Go.Proofs.Ytloehocldbfbbaa.fnLeadValue
