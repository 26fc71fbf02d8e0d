/- The walk of the law FnSpareBound: for every code it returns true and leaves old memory alone. -/
import Derived.Test.YtloehocldbfbbaaGuessW
import Derived.Test.YtloehocldbfbbaaLeadI
import Derived.Test.YtloehocldbfbbaaLeadS
import Derived.Test.YtloehocldbfbbaaDPartsSpare
import Derived.OpenShut
import Derived.Deep.RegionLaw
namespace Go.Proofs.Ytloehocldbfbbaa.fnSpareBound
open Go.RowKit
set_option linter.unusedVariables false

theorem bound {xs : List Int} {p : Int} (hv : partsValid xs = true) (hp : 0 ≤ p ∧ p ≤ 100) : 100 * partsSpare xs p < p * top xs 1 + 100 ∧ 0 ≤ p * top xs 1 ∧ p * top xs 1 ≤ 200000000 := by
  have h1 := spare_num hv hp
  have h2 := top_range hv 1
  have h3 := mul_range h2.1 h2.2 hp.1 hp.2
  rw [Int.mul_comm] at h3
  have h4 := rest_range hv 2
  have h5 : need xs p = top xs 1 * p - 100 * (tot xs - top xs 2) := rfl
  rw [Int.mul_comm] at h5
  omega

set_option maxHeartbeats 1000000 in
theorem walk (A : Option Addr) (c : Nat) (bs : List Int) (w : World) (hx : Seq ByteV w A bs) (hl : bs.length ≤ maxLen) (hc : bs.length ≤ c) (hcm : c ≤ maxLen) (hw : ∀ n ∈ bs, (Lit.int .u8 n).wf = true) :
    Calls Try.prog 9 #[.slice A bs.length c] w (Yes w) := by
  have hby : ∀ b ∈ bs, 0 ≤ b ∧ b ≤ 255 := fun b hb => bounds_u8 (hw b hb)
  have HB := Lib.hid hby
  clear hw hby
  by_cases hbig : 1048576 < bs.length
  · unfold maxLen at hl
    go_enter Try.func9, Try.ntmps9
    go_wp2
    go_ret
    exact ⟨rfl, Below.refl _ _⟩
  have hb1 : decide (1048576 < (bs.length : Int)) = false := by simp; omega
  go_enter Try.func9, Try.ntmps9
  go_wp2_with fail
  refine (drawPartsSpare_any A c bs _ hx hl hc hcm HB.out).mono ?_
  rintro e w1 ⟨A1, c1, xs, p, rfl, hlst, hd, hints, h1⟩
  clear hx hl hc hcm HB hb1
  have hlen := hd.1
  have HW := Lib.hid (drawn_wf hd)
  have HL1 := Lib.hid hlst
  clear hd hlst
  have hi0 := hints.1
  have hi1 := hints.2
  clear hints
  go_wp2_with fail
  refine (implPartsSpare_g A1 c1 xs (p) _ HL1.out (by omega) HW.out (WalkArith.wf_i64 (by omega))).mono ?_
  rintro e w2 ⟨rfl, hb2⟩
  have h2 := h1.trans (hb2.mono h1.size)
  have HL2 := Lib.hid (HL1.out.below hb2)
  clear HL1
  go_wp2_with fail
  refine (specPartsSpare_g A1 c1 xs (p) _ HL2.out (by omega) HW.out (WalkArith.wf_i64 (by omega))).mono ?_
  rintro e w3 ⟨rfl, hb3⟩
  have h3 := h2.trans (hb3.mono h2.size)
  have HL3 := Lib.hid (HL2.out.below hb3)
  clear HL2
  have q0 := (spare_range xs p).1
  have q1 := (spare_range xs p).2
  by_cases hneg : partsSpare xs p < 0
  · go_wp2_with fail
    go_ret
    exact ⟨rfl, h3⟩
  have hs := spare_ge (xs := xs) (p := p) (by omega)
  have HV := Lib.hid hs.1
  have p0 := hs.2.1
  have p1 := hs.2.2
  have hneg' : decide (partsSpare xs p < 0) = false := decide_eq_false hneg
  clear hs
  have b := bound HV.out ⟨p0, p1⟩
  have b0 := b.1
  have b1 := b.2.1
  have b2 := b.2.2
  have t0 := (top_range HV.out 1).1
  have t1 := (top_range HV.out 1).2
  clear b
  go_wp2_with fail
  refine (implTop_v A1 c1 xs (1) 1 _ rfl (by omega) HL3.out HV.out).mono ?_
  rintro e w4 ⟨rfl, hb4⟩
  have h4 := h3.trans (hb4.mono h3.size)
  have HL4 := Lib.hid (HL3.out.below hb4)
  clear HL3
  go_wp2_with fail
  go_ret
  exact ⟨rfl, h4⟩
end Go.Proofs.Ytloehocldbfbbaa.fnSpareBound
