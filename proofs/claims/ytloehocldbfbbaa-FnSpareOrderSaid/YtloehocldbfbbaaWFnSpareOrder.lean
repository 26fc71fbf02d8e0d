/- The walk of the law FnSpareOrder: for every code it returns true and leaves old memory alone. -/
import Derived.Test.YtloehocldbfbbaaGuessW
import Derived.Test.YtloehocldbfbbaaLeadI
import Derived.Test.YtloehocldbfbbaaLeadS
import Derived.Test.YtloehocldbfbbaaDPartsSpare
import Derived.OpenShut
import Derived.Deep.RegionLaw
namespace Go.Proofs.Ytloehocldbfbbaa.fnSpareOrder
open Go.RowKit
set_option linter.unusedVariables false

theorem spare_zero {xs : List Int} {p : Int} (hv : partsValid xs = true) (hl : xs.length ≠ 20) : partsSpare (xs ++ [0]) p = partsSpare xs p := by
  have hv2 := snoc_valid (m := 0) hv (by have := valid_len hv; omega) (by omega)
  have hn : need (xs ++ [0]) p = need xs p := by
    rw [need, need, top_zero_add (valid_nonneg hv), top_zero_add (valid_nonneg hv), tot_snoc1, Int.add_zero]
  rw [partsSpare, partsSpare, spareOk, spareOk, hv, hv2, hn]
theorem spare_next {xs : List Int} {p : Int} (hv : partsValid xs = true) (hp : 0 ≤ p ∧ p ≤ 99) : partsSpare xs p ≤ partsSpare xs (p + 1) := by
  have h1 := need_next xs p
  have h2 := (top1_range hv).1
  rw [spare_yes hv (by omega), spare_yes hv (by omega), h1]
  split <;> split <;> omega

set_option maxHeartbeats 1000000 in
theorem walk (A : Option Addr) (c : Nat) (bs : List Int) (A' : Option Addr) (c' : Nat) (ms : List Int) (w : World) (hx : Seq ByteV w A bs) (hl : bs.length ≤ maxLen) (hc : bs.length ≤ c) (hcm : c ≤ maxLen) (hw : ∀ n ∈ bs, (Lit.int .u8 n).wf = true) (hx' : Seq ByteV w A' ms) (hl' : ms.length ≤ maxLen) (hc' : ms.length ≤ c') (hcm' : c' ≤ maxLen) (hw' : ∀ n ∈ ms, (Lit.int .u8 n).wf = true) :
    Calls Try.prog 5 #[.slice A bs.length c, .slice A' ms.length c'] w (Yes w) := by
  have hby : ∀ b ∈ bs, 0 ≤ b ∧ b ≤ 255 := fun b hb => bounds_u8 (hw b hb)
  have HB := Lib.hid hby
  clear hw hby hw' hx' hc' hcm'
  by_cases hbig : 1048576 < bs.length
  · unfold maxLen at hl hl'
    go_enter Try.func5, Try.ntmps5
    go_wp2
    go_ret
    exact ⟨rfl, Below.refl _ _⟩
  by_cases hbig' : 1048576 < ms.length
  · have hb1 : decide (1048576 < (bs.length : Int)) = false := by simp; omega
    unfold maxLen at hl hl'
    go_enter Try.func5, Try.ntmps5
    go_wp2
    go_ret
    exact ⟨rfl, Below.refl _ _⟩
  have hb1 : decide (1048576 < (bs.length : Int)) = false := by simp; omega
  have hb2 : decide (1048576 < (ms.length : Int)) = false := by simp; omega
  go_enter Try.func5, Try.ntmps5
  go_wp2_with fail
  refine (drawPartsSpare_any A c bs _ hx hl hc hcm HB.out).mono ?_
  rintro e w1 ⟨A1, c1, xs, p, rfl, hlst, hd, hints, h1⟩
  clear hx hl hc hcm HB hb1 hb2
  have hlen := hd.1
  have HW := Lib.hid (drawn_wf hd)
  have HL1 := Lib.hid hlst
  clear hd hlst
  have hi0 := hints.1
  have hi1 := hints.2
  clear hints
  go_wp2_with fail
  refine (implPartsSpare_g A1 c1 xs (p) _ HL1.out (by omega) HW.out (WalkArith.wf_i64 (by omega))).mono ?_
  rintro e w2 ⟨rfl, hb2⟩
  have h2 := h1.trans (hb2.mono h1.size)
  have HL2 := Lib.hid (HL1.out.below hb2)
  clear HL1
  go_wp2_with fail
  refine (specPartsSpare_g A1 c1 xs (p) _ HL2.out (by omega) HW.out (WalkArith.wf_i64 (by omega))).mono ?_
  rintro e w3 ⟨rfl, hb3⟩
  have h3 := h2.trans (hb3.mono h2.size)
  have HL3 := Lib.hid (HL2.out.below hb3)
  clear HL2
  have q0 := (spare_range xs p).1
  have q1 := (spare_range xs p).2
  by_cases hneg : partsSpare xs p < 0
  · go_wp2_with fail
    go_ret
    exact ⟨rfl, h3⟩
  have hs := spare_ge (xs := xs) (p := p) (by omega)
  have HV := Lib.hid hs.1
  have p0 := hs.2.1
  have p1 := hs.2.2
  have hneg' : decide (partsSpare xs p < 0) = false := decide_eq_false hneg
  clear hs
  obtain ⟨k, hk, hk1⟩ : ∃ k : Nat, (ms.length : Int) % ((xs.length : Int) + 1) = (k : Int) ∧ k ≤ xs.length :=
    ⟨ms.length % (xs.length + 1), by simp, by have := Nat.mod_lt ms.length (show 0 < xs.length + 1 by omega); omega⟩
  have hkc : k ≤ c1 := by have := HL3.out.2.1; omega
  go_wp2_with fail
  rw [hk]
  clear hk
  go_region_law (first
    | (refine stepN (f := IntV) rfl (.tmp 47) (.tmp 50) _ rfl _ w3.heap.size 3 (.int .i64 0) 8 Try.underlying23 infoInt' rfl _ 0 0 [] rfl rfl (by exact own_empty w3 _) _ (xs.length - k) (c1 - k) (xs.drop k) (by simp) rfl (by exact (HL3.out.below ((Below.refl _ _).alloc (Nat.le_refl _) _)).drop hk1) (fun _ => rfl) (by omega) (by omega) (by omega) (by simp) ?_; intro Ar0 cr0 rt0 wr0 HR0 hor0 hbr0'; have hbr0 : Below w3.heap.size w3 wr0 := (((Below.refl _ _).alloc (Nat.le_refl _) _).drew).trans hbr0'; clear hbr0')
    | (refine stepN (f := IntV) rfl (.tmp 51) (.tmp 54) _ rfl _ w3.heap.size 3 (.int .i64 0) 8 Try.underlying23 infoInt' rfl Ar0 _ cr0 rt0 rfl rfl (by exact hor0) A1 k c1 (xs.take k) (by simp; omega) rfl (by exact (HL3.out.below hbr0).take hk1) (fun _ => rfl) (by rw [HR0.out]; simp; omega) (by omega) (by omega) hbr0.size ?_; intro Ars crs rs w4 HR1 ho4 hbr1))
  generalize (if c1 = k then A1 else Option.map (fun x => x.add k) A1) = A9
  have hb4 := hbr0.trans hbr1
  have HQrs : Hid (rs = xs.drop k ++ xs.take k) := Lib.hid (by rw [HR1.out, HR0.out]; rfl)
  have hlenrs : rs.length = xs.length := by rw [HQrs.out]; simp; omega
  have HNrs := Lib.hid hlenrs
  have hlers : rs.length ≤ 30 := by omega
  clear hlenrs HR1 HR0 hor0 hbr0 hbr1
  have HWrs : Hid (∀ n ∈ rs, (Lit.int .i64 n).wf = true) := Lib.hid (fun n hn => HW.out n ((rot_perm _ _).mem_iff.1 (by rw [← HQrs.out]; exact hn)))
  have h4 := h3.trans (hb4.mono h3.size)
  have HL4 := Lib.hid (HL3.out.below hb4)
  clear HL3
  have HLrs4 := Lib.hid (Lst.of_own ho4)
  clear ho4
  have f1 : (partsSpare rs p == partsSpare xs p) = true := by rw [HQrs.out, spare_perm (rot_perm xs k)]; simp
  have q2 := (spare_range xs (p + 1)).1
  have q3 := (spare_range xs (p + 1)).2
  go_wp2_with fail
  refine (implPartsSpare_g A1 c1 xs (p + 1) _ HL4.out (by omega) HW.out (WalkArith.wf_i64 (by omega))).mono ?_
  rintro e w5 ⟨rfl, hb5⟩
  have h5 := h4.trans (hb5.mono h4.size)
  have HL5 := Lib.hid (HL4.out.below hb5)
  clear HL4
  have HLrs5 := Lib.hid (HLrs4.out.below hb5)
  clear HLrs4
  go_wp2_with fail
  refine (implPartsSpare_g Ars crs rs (p) _ HLrs5.out (by omega) HWrs.out (WalkArith.wf_i64 (by omega))).mono ?_
  rintro e w6 ⟨rfl, hb6⟩
  have h6 := h5.trans (hb6.mono h5.size)
  have HL6 := Lib.hid (HL5.out.below hb6)
  clear HL5
  have HLrs6 := Lib.hid (HLrs5.out.below hb6)
  clear HLrs5
  by_cases h20 : xs.length = 20
  · have h20' : ((xs.length : Int) == 20) = true := by simp [h20]
    have H20 := Lib.hid h20
    clear h20
    by_cases h100 : p = 100
    · skip
      have f3 : partsSpare xs (p + 1) < partsSpare xs p := by rw [spare_no (by omega)]; omega
      have f4 : (partsSpare xs (p + 1) == -1) = true := by rw [spare_no (by omega)]; rfl
      have h100' : (p == 100) = true := by simp [h100]
      have H100 := Lib.hid h100
      clear h100
      go_wp2_with fail
      go_ret
      exact ⟨rfl, h6⟩
    · have f3 := spare_next HV.out (show 0 ≤ p ∧ p ≤ 99 by omega)
      go_wp2_with fail
      go_ret
      exact ⟨rfl, h6⟩
  · have h20' : ((xs.length : Int) == 20) = false := beq_eq_false_iff_ne.2 (by omega)
    have H20 := Lib.hid h20
    clear h20
    go_wp2_with (at_builtin; refine appFresh (f := IntV) (.tmp 70) (.tmp 71) _ rfl (by rfl) w6 3 (.int .i64 0) 8 Try.underlying23 infoInt' rfl rfl A1 _ c1 xs rfl rfl HL6.out (fun _ => rfl) (by omega) (by omega) ?_)
    intro Aus cus us w7 HQus ho7 hb7
    have hlenus : us.length ≤ 26 := by rw [HQus.out]; omega
    have h7 := h6.trans (hb7.mono h6.size)
    have HL7 := Lib.hid (HL6.out.below hb7)
    have HLrs7 := Lib.hid (HLrs6.out.below hb7)
    have HWus : Hid (∀ n ∈ us, (Lit.int .i64 n).wf = true) := Lib.hid (by rw [HQus.out]; exact HW.out)
    have hz7 := hb7.size
    go_wp2_with (at_builtin; refine appOne (f := IntV) (.tmp 72) (.tmp 73) _ rfl (by rfl) w7 w6.heap.size 3 (.int .i64 0) 8 Try.underlying23 infoInt' rfl Aus _ cus us rfl rfl ho7 (0) rfl (fun _ => rfl) (by omega) (by omega) hz7 ?_)
    intro Azs czs zs w8 HQzs ho8 hc8
    have hlenzs : zs.length ≤ 30 := by rw [HQzs.out]; simp; omega
    have HWzs : Hid (∀ n ∈ zs, (Lit.int .i64 n).wf = true) := Lib.hid (by rw [HQzs.out]; exact wf_snoc HWus.out (WalkArith.wf_i64 (by omega)))
    have hb8 := hb7.trans hc8
    have h8 := h6.trans (hb8.mono h6.size)
    have HL8 := Lib.hid (HL6.out.below hb8)
    have HLrs8 := Lib.hid (HLrs6.out.below hb8)
    have HLzs8 := Lib.hid (Lst.of_own ho8)
    clear ho8
    have f2 : (partsSpare zs p == partsSpare xs p) = true := by rw [HQzs.out, HQus.out, spare_zero HV.out H20.out]; simp
    go_wp2_with fail
    refine (implPartsSpare_g Azs czs zs (p) _ HLzs8.out (by omega) HWzs.out (WalkArith.wf_i64 (by omega))).mono ?_
    rintro e w9 ⟨rfl, hb9⟩
    have h9 := h8.trans (hb9.mono h8.size)
    have HL9 := Lib.hid (HL8.out.below hb9)
    clear HL8
    have HLrs9 := Lib.hid (HLrs8.out.below hb9)
    clear HLrs8
    have HLzs9 := Lib.hid (HLzs8.out.below hb9)
    clear HLzs8
    by_cases h100 : p = 100
    · skip
      have f3 : partsSpare xs (p + 1) < partsSpare xs p := by rw [spare_no (by omega)]; omega
      have f4 : (partsSpare xs (p + 1) == -1) = true := by rw [spare_no (by omega)]; rfl
      have h100' : (p == 100) = true := by simp [h100]
      have H100 := Lib.hid h100
      clear h100
      go_wp2_with fail
      go_ret
      exact ⟨rfl, h9⟩
    · have f3 := spare_next HV.out (show 0 ≤ p ∧ p ≤ 99 by omega)
      go_wp2_with fail
      go_ret
      exact ⟨rfl, h9⟩
end Go.Proofs.Ytloehocldbfbbaa.fnSpareOrder
