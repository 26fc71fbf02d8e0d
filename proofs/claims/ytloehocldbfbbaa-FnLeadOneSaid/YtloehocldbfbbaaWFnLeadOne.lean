/- The walk of the law FnLeadOne: for every code it returns true and leaves old memory alone. -/
import Derived.Test.YtloehocldbfbbaaGuessW
import Derived.Test.YtloehocldbfbbaaLeadI
import Derived.Test.YtloehocldbfbbaaLeadS2
import Derived.Test.YtloehocldbfbbaaDPartsLead
import Derived.OpenShut
import Derived.Deep.RegionLaw
namespace Go.Proofs.Ytloehocldbfbbaa.fnLeadOne
open Go.RowKit
set_option linter.unusedVariables false

theorem lead_pos {xs : List Int} {n p : Int} (h : partsLead xs n p = true) : 0 < top xs n.toNat := by
  rw [lead_iff] at h
  have h1 := (tot_range h.1).1
  have h2 : 0 ≤ p * tot xs := Int.mul_nonneg h.2.2.1.1 h1
  omega
theorem lead_one {t q : Int} (ht : 0 < t ∧ t ≤ 100000) (hq : 0 ≤ q ∧ q ≤ 99) : partsLead [t] 1 q = true := by
  rw [lead_iff]
  refine ⟨valid_of (fun x hx => by simp at hx; omega) (by simp), by omega, by omega, ?_⟩
  show q * tot [t] < top [t] 1 * 100
  rw [top_all (by simp)]
  simp only [tot, Int.add_zero]
  have h2 : q * t ≤ 99 * t := Int.mul_le_mul_of_nonneg_right hq.2 (by omega)
  omega
theorem lead_all {t : Int} : partsLead [t] 1 100 = false := by
  cases e : partsLead [t] 1 100
  · rfl
  · have h := (lead_iff.1 e).2.2.2
    rw [show (1 : Int).toNat = 1 from rfl, top_all (by simp)] at h
    omega

set_option maxHeartbeats 1000000 in
theorem walk (A : Option Addr) (c : Nat) (bs : List Int) (A' : Option Addr) (c' : Nat) (ms : List Int) (w : World) (hx : Seq ByteV w A bs) (hl : bs.length ≤ maxLen) (hc : bs.length ≤ c) (hcm : c ≤ maxLen) (hw : ∀ n ∈ bs, (Lit.int .u8 n).wf = true) (hx' : Seq ByteV w A' ms) (hl' : ms.length ≤ maxLen) (hc' : ms.length ≤ c') (hcm' : c' ≤ maxLen) (hw' : ∀ n ∈ ms, (Lit.int .u8 n).wf = true) :
    Calls Try.prog 4 #[.slice A bs.length c, .slice A' ms.length c'] w (Yes w) := by
  have hby : ∀ b ∈ bs, 0 ≤ b ∧ b ≤ 255 := fun b hb => bounds_u8 (hw b hb)
  have HB := Lib.hid hby
  clear hw hby hw' hx' hc' hcm'
  by_cases hbig : 1048576 < bs.length
  · unfold maxLen at hl hl'
    go_enter Try.func4, Try.ntmps4
    go_wp2
    go_ret
    exact ⟨rfl, Below.refl _ _⟩
  by_cases hbig' : 1048576 < ms.length
  · have hb1 : decide (1048576 < (bs.length : Int)) = false := by simp; omega
    unfold maxLen at hl hl'
    go_enter Try.func4, Try.ntmps4
    go_wp2
    go_ret
    exact ⟨rfl, Below.refl _ _⟩
  have hb1 : decide (1048576 < (bs.length : Int)) = false := by simp; omega
  have hb2 : decide (1048576 < (ms.length : Int)) = false := by simp; omega
  go_enter Try.func4, Try.ntmps4
  go_wp2_with fail
  refine (drawPartsLead_any A c bs _ hx hl hc hcm HB.out).mono ?_
  rintro e w1 ⟨A1, c1, xs, n, p, rfl, hlst, hd, hints, h1⟩
  clear hx hl hc hcm HB hb1 hb2
  have hlen := hd.1
  have HW := Lib.hid (drawn_wf hd)
  have HL1 := Lib.hid hlst
  clear hd hlst
  have hi0 := hints.1.1
  have hi1 := hints.1.2
  have hi2 := hints.2.1
  have hi3 := hints.2.2
  clear hints
  go_wp2_with fail
  refine (implPartsLead_g A1 c1 xs (n) (p) _ HL1.out (by omega) HW.out (WalkArith.wf_i64 (by omega)) (WalkArith.wf_i64 (by omega))).mono ?_
  rintro e w2 ⟨rfl, hb2⟩
  have h2 := h1.trans (hb2.mono h1.size)
  have HL2 := Lib.hid (HL1.out.below hb2)
  clear HL1
  go_wp2_with fail
  refine (specPartsLead_g A1 c1 xs (n) (p) _ HL2.out (by omega) HW.out (WalkArith.wf_i64 (by omega)) (WalkArith.wf_i64 (by omega))).mono ?_
  rintro e w3 ⟨rfl, hb3⟩
  have h3 := h2.trans (hb3.mono h2.size)
  have HL3 := Lib.hid (HL2.out.below hb3)
  clear HL2
  cases hv : partsLead xs n p
  · go_wp2_with fail
    go_ret
    exact ⟨rfl, h3⟩
  have HV0 := Lib.hid hv
  have hl := lead_iff.1 HV0.out
  have HV := Lib.hid hl.1
  obtain ⟨k, rfl⟩ := Int.eq_ofNat_of_zero_le (a := n) (by omega)
  have tp : 0 < top xs k := lead_pos HV0.out
  have t1 := (top_range HV.out k).2
  clear hl
  obtain ⟨q, hq, hq1⟩ : ∃ a : Nat, (ms.length : Int) % 100 = (a : Int) ∧ a < 100 := ⟨ms.length % 100, by simp, Nat.mod_lt _ (by omega)⟩
  go_wp2_with fail
  refine (implTop_v A1 c1 xs (k) k _ (by omega) (by omega) HL3.out HV.out).mono ?_
  rintro e w4 ⟨rfl, hb4⟩
  have h4 := h3.trans (hb4.mono h3.size)
  have HL4 := Lib.hid (HL3.out.below hb4)
  clear HL3
  by_cases hbg : 100000 < top xs k
  · have hvv := HV.out
    go_wp2_with fail
    refine (implPartsValid_any A1 c1 xs _ HL4.out.1 (by unfold maxLen; omega)).mono ?_
    rintro e w' ⟨rfl, rfl⟩
    go_wp2_with fail
    go_ret
    exact ⟨rfl, h4⟩
  have f1 := lead_one (t := top xs k) (q := (q : Int)) (by omega) (by omega)
  have f2 := lead_all (t := top xs k)
  go_wp2_with fail
  have ha1 : Below w4.heap.size w4 (w4.alloc (.cells #[.int .i64 (top xs k)] 3)) := (Below.refl _ _).alloc (Nat.le_refl _) _
  refine (implPartsLead_g (some ⟨w4.heap.size, 0, none⟩) 1 [top xs k] (1) ((q : Int)) _ (Lst.lit w4 3 _ [top xs k] 1 rfl rfl (by omega)) (by simp) (fun z hz => WalkArith.wf_i64 (by simp at hz; omega)) (WalkArith.wf_i64 (by omega)) (WalkArith.wf_i64 (by omega))).mono ?_
  rintro e w5 ⟨rfl, hb5'⟩
  have hb5 := ha1.trans (hb5'.mono ha1.size)
  clear ha1 hb5'
  have h5 := h4.trans (hb5.mono h4.size)
  have HL5 := Lib.hid (HL4.out.below hb5)
  clear HL4
  go_wp2_with fail
  have ha2 : Below w5.heap.size w5 (w5.alloc (.cells #[.int .i64 (top xs k)] 3)) := (Below.refl _ _).alloc (Nat.le_refl _) _
  refine (implPartsLead_g (some ⟨w5.heap.size, 0, none⟩) 1 [top xs k] (1) (100) _ (Lst.lit w5 3 _ [top xs k] 1 rfl rfl (by omega)) (by simp) (fun z hz => WalkArith.wf_i64 (by simp at hz; omega)) (WalkArith.wf_i64 (by omega)) (WalkArith.wf_i64 (by omega))).mono ?_
  rintro e w6 ⟨rfl, hb6'⟩
  have hb6 := ha2.trans (hb6'.mono ha2.size)
  clear ha2 hb6'
  have h6 := h5.trans (hb6.mono h5.size)
  have HL6 := Lib.hid (HL5.out.below hb6)
  clear HL5
  go_wp2_with fail
  go_ret
  exact ⟨rfl, h6⟩
end Go.Proofs.Ytloehocldbfbbaa.fnLeadOne
