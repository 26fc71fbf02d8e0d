/- The walk of the law FnFewOrder: for every code it returns true and leaves old memory alone. -/
import Derived.Test.YtapmpggohcmljaaGiveFew
import Derived.Test.YtapmpggohcmljaaDPartsFew
import Derived.OpenShut
import Derived.Deep.RegionLaw
namespace Go.Proofs.Ytapmpggohcmljaa.fnFewOrder
open Go.RowKit
set_option linter.unusedVariables false

theorem few_iff {xs : List Int} {n : Int} : partsFew xs n = true ↔ partsValid xs = true ∧ 1 ≤ many xs ∧ many xs < n := by simp [partsFew]
theorem few_valid {xs : List Int} {n : Int} (h : partsFew xs n = true) : partsValid xs = true := (few_iff.1 h).1
theorem rot_valid (xs : List Int) (k : Nat) : partsValid (xs.drop k ++ xs.take k) = partsValid xs := by
  rw [Bool.eq_iff_iff, valid_iff, valid_iff]
  have e : ∀ x, x ∈ xs.drop k ++ xs.take k ↔ x ∈ xs := fun x => by
    rw [List.mem_append, or_comm, ← List.mem_append, List.take_append_drop]
  simp only [e]
  rw [show (xs.drop k ++ xs.take k).length = xs.length by simp; omega]
theorem rot_few (xs : List Int) (k : Nat) (n : Int) : partsFew (xs.drop k ++ xs.take k) n = partsFew xs n := by
  have h : many (xs.drop k ++ xs.take k) = many xs := by
    have e := many_append (xs.take k) (xs.drop k)
    rw [List.take_append_drop] at e
    rw [many_append, e]; omega
  rw [partsFew, partsFew, rot_valid, h]
theorem many_twice (xs : List Int) : many (xs.map (fun x => 2 * x)) = many xs := by
  induction xs with
  | nil => rfl
  | cons x r ih =>
    simp only [List.map_cons, many, ih]
    by_cases h : x = 0
    · simp [h]
    · rw [if_neg h, if_neg (by omega)]

set_option maxHeartbeats 1000000 in
theorem walk (A : Option Addr) (c : Nat) (bs : List Int) (A' : Option Addr) (c' : Nat) (ms : List Int) (w : World) (hx : Seq ByteV w A bs) (hl : bs.length ≤ maxLen) (hc : bs.length ≤ c) (hcm : c ≤ maxLen) (hw : ∀ n ∈ bs, (Lit.int .u8 n).wf = true)
    (hx' : Seq ByteV w A' ms) (hl' : ms.length ≤ maxLen) (hc' : ms.length ≤ c') (hcm' : c' ≤ maxLen) (hw' : ∀ n ∈ ms, (Lit.int .u8 n).wf = true) :
    Calls Try.prog 7 #[.slice A bs.length c, .slice A' ms.length c'] w (Yes w) := by
  have hby : ∀ b ∈ bs, 0 ≤ b ∧ b ≤ 255 := fun b hb => bounds_u8 (hw b hb)
  have HB := Lib.hid hby
  clear hw hw' hby hx' hc' hcm'
  by_cases hbig : 1048576 < bs.length
  · unfold maxLen at hl hl'
    go_enter Try.func7, Try.ntmps7
    go_wp2
    go_ret
    exact ⟨rfl, Below.refl _ _⟩
  by_cases hbig' : 1048576 < ms.length
  · have hb1 : decide (1048576 < (bs.length : Int)) = false := by simp; omega
    unfold maxLen at hl hl'
    go_enter Try.func7, Try.ntmps7
    go_wp2
    go_ret
    exact ⟨rfl, Below.refl _ _⟩
  have hb1 : decide (1048576 < (bs.length : Int)) = false := by simp; omega
  have hb2 : decide (1048576 < (ms.length : Int)) = false := by simp; omega
  go_enter Try.func7, Try.ntmps7
  go_wp2_with fail
  refine (drawPartsFew_any A c bs _ hx hl hc hcm HB.out).mono ?_
  rintro e w1 ⟨A1, c1, xs, n, rfl, hlst, hd, hn, h1⟩
  clear hx hl hc hcm HB hb1 hb2
  have hlen := hd.1
  have hn0 := hn.1
  have hn1 := hn.2
  have HD := Lib.hid hd.2
  clear hd hn
  go_wp2_with fail
  refine (implPartsFew_any A1 c1 xs n _ hlst.1 (by unfold maxLen; omega)).mono ?_
  rintro e w' ⟨rfl, rfl⟩
  go_wp2_with fail
  refine (specPartsFew_any A1 c1 xs n _ hlst.1 (by unfold maxLen; omega)).mono ?_
  rintro e w' ⟨rfl, rfl⟩
  cases hv : partsFew xs n
  · go_wp2_with fail
    go_ret
    exact ⟨rfl, h1⟩
  · obtain ⟨k, hk, hk1⟩ : ∃ k : Nat, (ms.length : Int) % ((xs.length : Int) + 1) = (k : Int) ∧ k ≤ xs.length :=
      ⟨ms.length % (xs.length + 1), by simp, by have := Nat.mod_lt ms.length (show 0 < xs.length + 1 by omega); omega⟩
    have hc1 : k ≤ c1 := by have := hlst.2.1; omega
    have HL := Lib.hid hlst
    have HV := Lib.hid hv
    clear hlst hv
    go_wp2_with fail
    rw [hk]
    clear hk
    go_region_law (first
      | (refine stepN (f := IntV) rfl (.tmp 48) (.tmp 51) _ rfl _ w1.heap.size 3 (.int .i64 0) 8 Try.underlying22 infoInt' rfl _ 0 0 [] rfl rfl (by exact own_empty w1 _) _ (xs.length - k) (c1 - k) (xs.drop k) (by simp) rfl (by exact (HL.out.below ((Below.refl _ _).alloc (Nat.le_refl _) _)).drop hk1) (fun _ => rfl) (by omega) (by omega) (by omega) (by simp) ?_; intro A2 c2 ys w2 HY ho2 hb2'; have hb2 : Below w1.heap.size w1 w2 := (((Below.refl _ _).alloc (Nat.le_refl _) _).drew).trans hb2'; clear hb2')
      | (refine stepN (f := IntV) rfl (.tmp 52) (.tmp 55) _ rfl _ w1.heap.size 3 (.int .i64 0) 8 Try.underlying22 infoInt' rfl A2 _ c2 ys rfl rfl (by exact ho2) A1 k c1 (xs.take k) (by simp; omega) rfl (by exact (HL.out.below hb2).take hk1) (fun _ => rfl) (by rw [HY.out]; simp; omega) (by omega) (by omega) hb2.size ?_; intro A3 c3 zs w3 HZ ho3 hb3))
    generalize (if c1 = k then A1 else Option.map (fun x => x.add k) A1) = A9
    have hb13 := hb2.trans hb3
    have hL := HL.out.below hb13
    have hF : partsFew zs n = true := by rw [HZ.out, HY.out, ← HV.out]; exact rot_few _ _ _
    have hzl : zs.length ≤ 21 := by rw [HZ.out, HY.out]; simp; omega
    have HF := Lib.hid hF
    have HR := Lib.hid (valid_mem (few_valid HV.out))
    clear hF ho2 hb2 hb3 HL HZ HY
    go_wp2_with fail
    go_loopw [11, 12] (fun v i wr => ∃ (A : Option Addr) (c : Nat) (k : Nat) (us : List Int), k ≤ xs.length ∧ i = .int .i64 k ∧ v = .slice A us.length c ∧ Hid (us = (xs.take k).map (fun x => 2 * x)) ∧ us.length ≤ 21 ∧ wr.ownsRow w3.heap.size 3 1 (.slice A us.length c) us.length (us.map IntV) ∧ Below w3.heap.size w3 wr) (fun _ i _ => xs.length - (intOf i).toNat)
    case atStart => exact ⟨_, _, 0, [], by omega, rfl, rfl, Lib.hid (by simp), by simp, own_empty w3 _, (Below.refl _ _).alloc (Nat.le_refl _) _⟩
    case round =>
      obtain ⟨A4, c4, k4, us, hk4, rfl, rfl, HU, hul, ho4, hb4⟩ := hrel
      by_cases hlt : k4 < xs.length
      · obtain ⟨b, o, x, rfl, hb, hxk, hcell⟩ := (hL.below hb4).1.at_ hlt
        have hx0 := (HR.out x (List.mem_of_getElem? hxk)).1
        have hx1 := (HR.out x (List.mem_of_getElem? hxk)).2
        have HX := Lib.hid hxk
        clear hxk
        go_wp2_with (at_builtin; refine appOne (f := IntV) (.tmp 64) (.tmp 70) _ rfl (by rfl) _ w3.heap.size 3 (.int .i64 0) 8 Try.underlying22 infoInt' rfl A4 _ c4 us rfl rfl ho4 (2 * x) rfl (fun _ => rfl) (by omega) (by omega) hb4.size ?_)
        intro A5 c5 vs w5 HVS ho5 hb5
        have hvs : vs = (xs.take (k4 + 1)).map (fun x => 2 * x) := by rw [HVS.out, HU.out, take_snoc' HX.out]; simp
        have hvl : vs.length ≤ 21 := by rw [hvs]; simp; omega
        have HVV := Lib.hid hvs
        clear hvs HVS
        go_wp2_with fail
        go_roundw
        case rel => exact ⟨A5, c5, k4 + 1, vs, by omega, by go_num, rfl, HVV, hvl, ho5, hb4.trans hb5⟩
        case measure => simp [intOf]; omega
      · have hus : us = xs.map (fun x => 2 * x) := by rw [HU.out, List.take_of_length_le (by omega)]
        have HUS := Lib.hid hus
        clear hus HU
        have hF := HF.out
        go_wp2_with fail
        refine (implPartsFew_any A3 c3 zs n _ ((Seq.of_own ho3).below hb4) (by unfold maxLen; omega)).mono ?_
        rintro e w' ⟨rfl, rfl⟩
        go_wp2_with fail
        refine (implPartsValid_any A4 c4 us _ (Seq.of_own ho4) (by unfold maxLen; omega)).mono ?_
        rintro e w' ⟨rfl, rfl⟩
        have hbe := h1.trans ((hb13.trans (hb4.mono hb13.size)).mono h1.size)
        cases hvu : partsValid us
        · go_wp2_with fail
          go_ret
          exact ⟨rfl, hbe⟩
        · have hfu : partsFew us n = true := by
            have h2 := few_iff.1 HV.out
            rw [few_iff]
            refine ⟨hvu, ?_⟩
            rw [HUS.out, many_twice]
            exact h2.2
          go_wp2_with fail
          refine (implPartsFew_any A4 c4 us n _ (Seq.of_own ho4) (by unfold maxLen; omega)).mono ?_
          rintro e w' ⟨rfl, rfl⟩
          go_wp2_with fail
          go_ret
          exact ⟨rfl, hbe⟩
end Go.Proofs.Ytapmpggohcmljaa.fnFewOrder
