/- The walk of the law FnLead: for every code it returns true and leaves old memory alone. -/
import Derived.Test.YtajdcjimpnheoaaWords
import Derived.Test.YtajdcjimpnheoaaLeadI
import Derived.Test.YtajdcjimpnheoaaLeadS2
import Derived.Test.YtajdcjimpnheoaaDPartsLead
import Derived.OpenShut
import Derived.Deep.RegionLaw
namespace Go.Proofs.Ytajdcjimpnheoaa.fnLead
open Go.RowKit
set_option linter.unusedVariables false

theorem more_n {xs : List Int} {n p : Int} (h : partsLead xs n p = true) (hn : n ≠ 20) : partsLead xs (n + 1) p = true := by
  rw [lead_iff] at h ⊢
  refine ⟨h.1, by omega, h.2.2.1, ?_⟩
  have := top_mono (valid_nonneg h.1) (show n.toNat ≤ (n + 1).toNat by omega)
  omega
theorem less_p {xs : List Int} {n p : Int} (h : partsLead xs n p = true) (hp : p ≠ 0) : partsLead xs n (p - 1) = true := by
  rw [lead_iff] at h ⊢
  refine ⟨h.1, h.2.1, by omega, ?_⟩
  have h1 := (tot_range h.1).1
  have h2 : (p - 1) * tot xs = p * tot xs - tot xs := by rw [Int.sub_mul, Int.one_mul]
  omega

set_option maxHeartbeats 1000000 in
theorem walk (A : Option Addr) (c : Nat) (bs : List Int) (w : World) (hx : Seq ByteV w A bs) (hl : bs.length ≤ maxLen) (hc : bs.length ≤ c) (hcm : c ≤ maxLen) (hw : ∀ n ∈ bs, (Lit.int .u8 n).wf = true) :
    Calls Try.prog 12 #[.slice A bs.length c] w (Yes w) := by
  have hby : ∀ b ∈ bs, 0 ≤ b ∧ b ≤ 255 := fun b hb => bounds_u8 (hw b hb)
  have HB := Lib.hid hby
  clear hw hby
  by_cases hbig : 1048576 < bs.length
  · unfold maxLen at hl
    go_enter Try.func12, Try.ntmps12
    go_wp2
    go_ret
    exact ⟨rfl, Below.refl _ _⟩
  have hb1 : decide (1048576 < (bs.length : Int)) = false := by simp; omega
  go_enter Try.func12, Try.ntmps12
  go_wp2_with fail
  refine (drawPartsLead_any A c bs _ hx hl hc hcm HB.out).mono ?_
  rintro e w1 ⟨A1, c1, xs, n, p, rfl, hlst, hd, hints, h1⟩
  clear hx hl hc hcm HB hb1
  have hlen := hd.1
  have HW := Lib.hid (drawn_wf hd)
  have HL1 := Lib.hid hlst
  clear hd hlst
  have hi0 := hints.1.1
  have hi1 := hints.1.2
  have hi2 := hints.2.1
  have hi3 := hints.2.2
  clear hints
  go_wp2_with fail
  refine (implPartsLead_g A1 c1 xs (n) (p) _ HL1.out (by omega) HW.out (WalkArith.wf_i64 (by omega)) (WalkArith.wf_i64 (by omega))).mono ?_
  rintro e w2 ⟨rfl, hb2⟩
  have h2 := h1.trans (hb2.mono h1.size)
  have HL2 := Lib.hid (HL1.out.below hb2)
  clear HL1
  go_wp2_with fail
  refine (specPartsLead_g A1 c1 xs (n) (p) _ HL2.out (by omega) HW.out (WalkArith.wf_i64 (by omega)) (WalkArith.wf_i64 (by omega))).mono ?_
  rintro e w3 ⟨rfl, hb3⟩
  have h3 := h2.trans (hb3.mono h2.size)
  have HL3 := Lib.hid (HL2.out.below hb3)
  clear HL2
  cases hv : partsLead xs n p
  · go_wp2_with fail
    go_ret
    exact ⟨rfl, h3⟩
  have HV0 := Lib.hid hv
  by_cases hn : n = 20
  · have hn' : (n == 20) = true := by simp [hn]
    have HN := Lib.hid hn
    clear hn
    by_cases hp : p = 0
    · have hp' : (p == 0) = true := by simp [hp]
      have HP := Lib.hid hp
      clear hp
      go_wp2_with fail
      go_ret
      exact ⟨rfl, h3⟩
    · have hp' : (p == 0) = false := beq_eq_false_iff_ne.2 (by omega)
      have f2 := less_p HV0.out hp
      have HP := Lib.hid hp
      clear hp
      go_wp2_with fail
      refine (implPartsLead_g A1 c1 xs (n) (p - 1) _ HL3.out (by omega) HW.out (WalkArith.wf_i64 (by omega)) (WalkArith.wf_i64 (by omega))).mono ?_
      rintro e w4 ⟨rfl, hb4⟩
      have h4 := h3.trans (hb4.mono h3.size)
      have HL4 := Lib.hid (HL3.out.below hb4)
      clear HL3
      go_wp2_with fail
      go_ret
      exact ⟨rfl, h4⟩
  · have hn' : (n == 20) = false := beq_eq_false_iff_ne.2 (by omega)
    have f1 := more_n HV0.out hn
    have HN := Lib.hid hn
    clear hn
    go_wp2_with fail
    refine (implPartsLead_g A1 c1 xs (n + 1) (p) _ HL3.out (by omega) HW.out (WalkArith.wf_i64 (by omega)) (WalkArith.wf_i64 (by omega))).mono ?_
    rintro e w4 ⟨rfl, hb4⟩
    have h4 := h3.trans (hb4.mono h3.size)
    have HL4 := Lib.hid (HL3.out.below hb4)
    clear HL3
    by_cases hp : p = 0
    · have hp' : (p == 0) = true := by simp [hp]
      have HP := Lib.hid hp
      clear hp
      go_wp2_with fail
      go_ret
      exact ⟨rfl, h4⟩
    · have hp' : (p == 0) = false := beq_eq_false_iff_ne.2 (by omega)
      have f2 := less_p HV0.out hp
      have HP := Lib.hid hp
      clear hp
      go_wp2_with fail
      refine (implPartsLead_g A1 c1 xs (n) (p - 1) _ HL4.out (by omega) HW.out (WalkArith.wf_i64 (by omega)) (WalkArith.wf_i64 (by omega))).mono ?_
      rintro e w5 ⟨rfl, hb5⟩
      have h5 := h4.trans (hb5.mono h4.size)
      have HL5 := Lib.hid (HL4.out.below hb5)
      clear HL4
      go_wp2_with fail
      go_ret
      exact ⟨rfl, h5⟩
end Go.Proofs.Ytajdcjimpnheoaa.fnLead
