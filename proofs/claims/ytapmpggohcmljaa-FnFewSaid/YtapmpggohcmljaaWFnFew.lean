/- The walk of the law FnFew: for every code it returns true and leaves old memory alone. -/
import Derived.Test.YtapmpggohcmljaaGiveFew
import Derived.Test.YtapmpggohcmljaaDPartsFew
import Derived.OpenShut
namespace Go.Proofs.Ytapmpggohcmljaa.fnFew
open Go.RowKit
set_option linter.unusedVariables false

theorem few_iff {xs : List Int} {n : Int} : partsFew xs n = true ↔ partsValid xs = true ∧ 1 ≤ many xs ∧ many xs < n := by simp [partsFew]
theorem more_ {xs : List Int} {n : Int} (h : partsFew xs n = true) : partsFew xs (n + 1) = true := by rw [few_iff] at h ⊢; exact ⟨h.1, by omega⟩
theorem one_ {xs : List Int} : partsFew xs 1 = false := by
  cases h : partsFew xs 1
  · rfl
  · rw [few_iff] at h; omega
theorem zero_ {xs : List Int} {n : Int} (h : partsFew xs n = true) (hl : xs.length ≠ 20) : partsFew (xs ++ [0]) n = true := by
  rw [few_iff] at h ⊢
  have hv := valid_iff.1 h.1
  refine ⟨valid_of (fun x hx => ?_) (by simp; omega), by simp [many_append, many]; omega⟩
  rcases List.mem_append.1 hx with hx | hx
  · exact hv.1 x hx
  · simp at hx; omega

set_option maxHeartbeats 1000000 in
theorem walk (A : Option Addr) (c : Nat) (bs : List Int) (w : World) (hx : Seq ByteV w A bs) (hl : bs.length ≤ maxLen) (hc : bs.length ≤ c) (hcm : c ≤ maxLen) (hw : ∀ n ∈ bs, (Lit.int .u8 n).wf = true) :
    Calls Try.prog 6 #[.slice A bs.length c] w (Yes w) := by
  have hby : ∀ b ∈ bs, 0 ≤ b ∧ b ≤ 255 := fun b hb => bounds_u8 (hw b hb)
  have HB := Lib.hid hby
  clear hw hby
  by_cases hbig : 1048576 < bs.length
  · unfold maxLen at hl
    go_enter Try.func6, Try.ntmps6
    go_wp2
    go_ret
    exact ⟨rfl, Below.refl _ _⟩
  have hb1 : decide (1048576 < (bs.length : Int)) = false := by simp; omega
  go_enter Try.func6, Try.ntmps6
  go_wp2_with fail
  refine (drawPartsFew_any A c bs _ hx hl hc hcm HB.out).mono ?_
  rintro e w1 ⟨A1, c1, xs, n, rfl, hlst, hd, hn, h1⟩
  clear hx hl hc hcm HB hb1
  have hlen := hd.1
  have hn0 := hn.1
  have hn1 := hn.2
  have HD := Lib.hid hd.2
  clear hd hn
  go_wp2_with fail
  refine (implPartsFew_any A1 c1 xs n _ hlst.1 (by unfold maxLen; omega)).mono ?_
  rintro e w' ⟨rfl, rfl⟩
  go_wp2_with fail
  refine (specPartsFew_any A1 c1 xs n _ hlst.1 (by unfold maxLen; omega)).mono ?_
  rintro e w' ⟨rfl, rfl⟩
  cases hv : partsFew xs n
  · go_wp2_with fail
    go_ret
    exact ⟨rfl, h1⟩
  · have HV := Lib.hid hv
    have hv1 := more_ hv
    have hv2 := one_ (xs := xs)
    have HL := Lib.hid hlst
    clear hlst
    by_cases h20 : xs.length = 20
    · have h20' : ((xs.length : Int) == 20) = true := by simp [h20]
      have H20 := Lib.hid h20
      clear h20
      go_wp2_with fail
      refine (implPartsFew_any A1 c1 xs (n + 1) _ HL.out.1 (by unfold maxLen; omega)).mono ?_
      rintro e w' ⟨rfl, rfl⟩
      go_wp2_with fail
      refine (implPartsFew_any A1 c1 xs 1 _ HL.out.1 (by unfold maxLen; omega)).mono ?_
      rintro e w' ⟨rfl, rfl⟩
      go_wp2_with fail
      go_ret
      exact ⟨rfl, h1⟩
    · have h20' : ((xs.length : Int) == 20) = false := beq_eq_false_iff_ne.2 (by omega)
      have H20 := Lib.hid h20
      clear h20
      go_wp2_with fail
      refine (implPartsFew_any A1 c1 xs (n + 1) _ HL.out.1 (by unfold maxLen; omega)).mono ?_
      rintro e w' ⟨rfl, rfl⟩
      go_wp2_with (at_builtin; refine appFresh (f := IntV) (.tmp 40) (.tmp 41) _ rfl (by rfl) w1 3 (.int .i64 0) 8 Try.underlying22 infoInt' rfl rfl A1 _ c1 xs rfl rfl HL.out (fun _ => rfl) (by omega) (by omega) ?_)
      intro A2 c2 ys w2 HY ho2 hb2
      have hy : ys.length ≤ 21 := by rw [HY.out]; exact hlen
      have hz2 := hb2.size
      go_wp2_with (at_builtin; refine appOne (f := IntV) (.tmp 42) (.tmp 43) _ rfl (by rfl) w2 w1.heap.size 3 (.int .i64 0) 8 Try.underlying22 infoInt' rfl A2 _ c2 ys rfl rfl ho2 0 rfl (fun _ => rfl) (by omega) (by omega) hz2 ?_)
      intro A3 c3 zs w3 HZ ho3 hb3
      have hzl : zs.length ≤ 22 := by rw [HZ.out]; simp; omega
      have hz3 : partsFew zs n = true := by rw [HZ.out, HY.out]; exact zero_ HV.out H20.out
      go_wp2_with fail
      refine (implPartsFew_any A3 c3 zs n _ (Seq.of_own ho3) (by unfold maxLen; omega)).mono ?_
      rintro e w' ⟨rfl, rfl⟩
      go_wp2_with fail
      refine (implPartsFew_any A1 c1 xs 1 _ (HL.out.1.below (hb2.trans hb3)) (by unfold maxLen; omega)).mono ?_
      rintro e w' ⟨rfl, rfl⟩
      go_wp2_with fail
      go_ret
      exact ⟨rfl, h1.trans ((hb2.trans hb3).mono h1.size)⟩
end Go.Proofs.Ytapmpggohcmljaa.fnFew
