/- The walk of the law FnGuessTwice: for every code it returns true and leaves old memory alone. -/
import Derived.Test.YtloehocldbfbbaaGuessW
import Derived.Test.YtloehocldbfbbaaLeadI
import Derived.Test.YtloehocldbfbbaaGuessS
import Derived.Test.YtloehocldbfbbaaDPartsGuess
import Derived.OpenShut
import Derived.Deep.RegionLaw
namespace Go.Proofs.Ytloehocldbfbbaa.fnGuessTwice
open Go.RowKit
set_option linter.unusedVariables false


set_option maxHeartbeats 1000000 in
theorem walk (A : Option Addr) (c : Nat) (bs : List Int) (A' : Option Addr) (c' : Nat) (ms : List Int) (w : World) (hx : Seq ByteV w A bs) (hl : bs.length ≤ maxLen) (hc : bs.length ≤ c) (hcm : c ≤ maxLen) (hw : ∀ n ∈ bs, (Lit.int .u8 n).wf = true) (hx' : Seq ByteV w A' ms) (hl' : ms.length ≤ maxLen) (hc' : ms.length ≤ c') (hcm' : c' ≤ maxLen) (hw' : ∀ n ∈ ms, (Lit.int .u8 n).wf = true) :
    Calls Try.prog 3 #[.slice A bs.length c, .slice A' ms.length c'] w (Yes w) := by
  have hby : ∀ b ∈ bs, 0 ≤ b ∧ b ≤ 255 := fun b hb => bounds_u8 (hw b hb)
  have HB := Lib.hid hby
  clear hw hby hw' hx' hc' hcm'
  by_cases hbig : 1048576 < bs.length
  · unfold maxLen at hl hl'
    go_enter Try.func3, Try.ntmps3
    go_wp2
    go_ret
    exact ⟨rfl, Below.refl _ _⟩
  by_cases hbig' : 1048576 < ms.length
  · have hb1 : decide (1048576 < (bs.length : Int)) = false := by simp; omega
    unfold maxLen at hl hl'
    go_enter Try.func3, Try.ntmps3
    go_wp2
    go_ret
    exact ⟨rfl, Below.refl _ _⟩
  have hb1 : decide (1048576 < (bs.length : Int)) = false := by simp; omega
  have hb2 : decide (1048576 < (ms.length : Int)) = false := by simp; omega
  go_enter Try.func3, Try.ntmps3
  go_wp2_with fail
  refine (drawPartsGuess_any A c bs _ hx hl hc hcm HB.out).mono ?_
  rintro e w1 ⟨A1, c1, xs, p, rfl, hlst, hd, hints, h1⟩
  clear hx hl hc hcm HB hb1 hb2
  have hlen := hd.1
  have HW := Lib.hid (drawn_wf hd)
  have HL1 := Lib.hid hlst
  clear hd hlst
  have hi0 := hints.1
  have hi1 := hints.2
  clear hints
  go_wp2_with fail
  refine (implPartsGuess_g A1 c1 xs (p) _ HL1.out (by omega) HW.out (WalkArith.wf_i64 (by omega))).mono ?_
  rintro e w2 ⟨rfl, hb2⟩
  have h2 := h1.trans (hb2.mono h1.size)
  have HL2 := Lib.hid (HL1.out.below hb2)
  clear HL1
  go_wp2_with fail
  refine (specPartsGuess_g A1 c1 xs (p) _ HL2.out (by omega) HW.out (WalkArith.wf_i64 (by omega))).mono ?_
  rintro e w3 ⟨rfl, hb3⟩
  have h3 := h2.trans (hb3.mono h2.size)
  have HL3 := Lib.hid (HL2.out.below hb3)
  clear HL2
  cases hv : partsGuess xs p
  · go_wp2_with fail
    go_ret
    exact ⟨rfl, h3⟩
  have HV0 := Lib.hid hv
  have HV := Lib.hid (guess_iff.1 HV0.out).1
  clear hv
  obtain ⟨k, hk, hk1⟩ : ∃ k : Nat, (ms.length : Int) % ((xs.length : Int) + 1) = (k : Int) ∧ k ≤ xs.length :=
    ⟨ms.length % (xs.length + 1), by simp, by have := Nat.mod_lt ms.length (show 0 < xs.length + 1 by omega); omega⟩
  have hkc : k ≤ c1 := by have := HL3.out.2.1; omega
  go_wp2_with fail
  rw [hk]
  clear hk
  go_region_law (first
    | (refine stepN (f := IntV) rfl (.tmp 48) (.tmp 51) _ rfl _ w3.heap.size 3 (.int .i64 0) 8 Try.underlying23 infoInt' rfl _ 0 0 [] rfl rfl (by exact own_empty w3 _) _ (xs.length - k) (c1 - k) (xs.drop k) (by simp) rfl (by exact (HL3.out.below ((Below.refl _ _).alloc (Nat.le_refl _) _)).drop hk1) (fun _ => rfl) (by omega) (by omega) (by omega) (by simp) ?_; intro Ar0 cr0 rt0 wr0 HR0 hor0 hbr0'; have hbr0 : Below w3.heap.size w3 wr0 := (((Below.refl _ _).alloc (Nat.le_refl _) _).drew).trans hbr0'; clear hbr0')
    | (refine stepN (f := IntV) rfl (.tmp 52) (.tmp 55) _ rfl _ w3.heap.size 3 (.int .i64 0) 8 Try.underlying23 infoInt' rfl Ar0 _ cr0 rt0 rfl rfl (by exact hor0) A1 k c1 (xs.take k) (by simp; omega) rfl (by exact (HL3.out.below hbr0).take hk1) (fun _ => rfl) (by rw [HR0.out]; simp; omega) (by omega) (by omega) hbr0.size ?_; intro Ars crs rs w4 HR1 ho4 hbr1))
  generalize (if c1 = k then A1 else Option.map (fun x => x.add k) A1) = A9
  have hb4 := hbr0.trans hbr1
  have HQrs : Hid (rs = xs.drop k ++ xs.take k) := Lib.hid (by rw [HR1.out, HR0.out]; rfl)
  have hlenrs : rs.length = xs.length := by rw [HQrs.out]; simp; omega
  have HNrs := Lib.hid hlenrs
  have hlers : rs.length ≤ 30 := by omega
  clear hlenrs HR1 HR0 hor0 hbr0 hbr1
  have HWrs : Hid (∀ n ∈ rs, (Lit.int .i64 n).wf = true) := Lib.hid (fun n hn => HW.out n ((rot_perm _ _).mem_iff.1 (by rw [← HQrs.out]; exact hn)))
  have h4 := h3.trans (hb4.mono h3.size)
  have HL4 := Lib.hid (HL3.out.below hb4)
  clear HL3
  have HLrs4 := Lib.hid (Lst.of_own ho4)
  clear ho4
  have hf1 : partsGuess rs p = true := by rw [HQrs.out, guess_perm (rot_perm xs k)]; exact HV0.out
  have HF1 := Lib.hid hf1
  clear hf1
  go_wp2_with fail
  go_loopw [11, 12] (fun v i wr => ∃ (A : Option Addr) (c : Nat) (k : Nat) (us : List Int), k ≤ xs.length ∧ i = .int .i64 k ∧ v = .slice A us.length c ∧ Hid (us = (xs.take k).map (fun x => 2 * x)) ∧ us.length ≤ 21 ∧ wr.ownsRow w4.heap.size 3 1 (.slice A us.length c) us.length (us.map IntV) ∧ Below w4.heap.size w4 wr) (fun _ i _ => xs.length - (intOf i).toNat)
  case atStart => exact ⟨_, _, 0, [], by omega, rfl, rfl, Lib.hid (by simp), by simp, own_empty w4 _, (Below.refl _ _).alloc (Nat.le_refl _) _⟩
  case round =>
    obtain ⟨Ays, cys, k4, ys, hk4, rfl, rfl, HU, hleys, ho4, hb5⟩ := hrel
    obtain ⟨w5, rfl⟩ : ∃ wo : World, wo = wr := ⟨_, rfl⟩
    by_cases hlt : k4 < xs.length
    · obtain ⟨b, o, x, hA4, hb, hxk, hcell⟩ := (HL4.out.below hb5).1.at_ hlt
      subst hA4
      have hx0 := (valid_mem HV.out x (List.mem_of_getElem? hxk)).1
      have hx1 := (valid_mem HV.out x (List.mem_of_getElem? hxk)).2
      have HX := Lib.hid hxk
      clear hxk
      go_wp2_with (at_builtin; refine appOne (f := IntV) (.tmp 64) (.tmp 70) _ rfl (by rfl) _ w4.heap.size 3 (.int .i64 0) 8 Try.underlying23 infoInt' rfl Ays _ cys ys rfl rfl ho4 (2 * x) rfl (fun _ => rfl) (by omega) (by omega) hb5.size ?_)
      intro A5v c5v vs w5' HVS hov5 hbv5
      have hvs : vs = (xs.take (k4 + 1)).map (fun x => 2 * x) := by rw [HVS.out, HU.out, take_snoc' HX.out]; simp
      have hvl : vs.length ≤ 21 := by rw [hvs]; simp; omega
      have HVV := Lib.hid hvs
      clear hvs HVS
      go_wp2_with fail
      go_roundw
      case rel => exact ⟨A5v, c5v, k4 + 1, vs, by omega, by go_num, rfl, HVV, hvl, hov5, hb5.trans hbv5⟩
      case measure => simp [intOf]; omega
    have HQys : Hid (ys = xs.map (fun x => 2 * x)) := Lib.hid (by rw [HU.out, List.take_of_length_le (by omega)])
    have HWys : Hid (∀ n ∈ ys, (Lit.int .i64 n).wf = true) := Lib.hid (fun n hn => by
      rw [HQys.out] at hn
      obtain ⟨x, hx, rfl⟩ := List.mem_map.1 hn
      have := valid_mem HV.out x hx
      exact WalkArith.wf_i64 (by omega))
    clear HU
    have h5 := h4.trans (hb5.mono h4.size)
    have HL5 := Lib.hid (HL4.out.below hb5)
    clear HL4
    have HLrs5 := Lib.hid (HLrs4.out.below hb5)
    clear HLrs4
    have HLys5 := Lib.hid (Lst.of_own ho4)
    clear ho4
    have f1 := HF1.out
    go_wp2_with fail
    refine (implPartsGuess_g Ars crs rs (p) _ HLrs5.out (by omega) HWrs.out (WalkArith.wf_i64 (by omega))).mono ?_
    rintro e w6 ⟨rfl, hb6⟩
    have h6 := h5.trans (hb6.mono h5.size)
    have HL6 := Lib.hid (HL5.out.below hb6)
    clear HL5
    have HLrs6 := Lib.hid (HLrs5.out.below hb6)
    clear HLrs5
    have HLys6 := Lib.hid (HLys5.out.below hb6)
    clear HLys5
    go_wp2_with fail
    refine (implPartsValid_any Ays cys ys _ HLys6.out.1 (by unfold maxLen; omega)).mono ?_
    rintro e w' ⟨rfl, rfl⟩
    cases hvys : partsValid ys
    · have HVys := Lib.hid hvys
      go_wp2_with fail
      go_ret
      exact ⟨rfl, h6⟩
    · have HVys := Lib.hid hvys
      have f2 : partsGuess ys p = true := by
        have h := HVys.out
        rw [HQys.out] at h ⊢
        exact guess_twice HV0.out h
      go_wp2_with fail
      refine (implPartsGuess_g Ays cys ys (p) _ HLys6.out (by omega) HWys.out (WalkArith.wf_i64 (by omega))).mono ?_
      rintro e w7 ⟨rfl, hb7⟩
      have h7 := h6.trans (hb7.mono h6.size)
      have HL7 := Lib.hid (HL6.out.below hb7)
      clear HL6
      have HLrs7 := Lib.hid (HLrs6.out.below hb7)
      clear HLrs6
      have HLys7 := Lib.hid (HLys6.out.below hb7)
      clear HLys6
      go_wp2_with fail
      go_ret
      exact ⟨rfl, h7⟩
end Go.Proofs.Ytloehocldbfbbaa.fnGuessTwice
