/- The walk of the law FnParts: for every code it returns true and leaves old memory alone. -/
import Derived.Test.YtapmpggohcmljaaGiveFew
import Derived.Test.YtapmpggohcmljaaDPartsValid
import Derived.OpenShut
namespace Go.Proofs.Ytapmpggohcmljaa.fnParts
open Go.RowKit
set_option linter.unusedVariables false

theorem big {xs : List Int} : partsValid (xs ++ [100001]) = false := by
  cases h : partsValid (xs ++ [100001])
  · rfl
  · have := valid_mem h 100001 (by simp)
    omega
theorem less {xs : List Int} (h : partsValid xs = true) (k : Nat) : partsValid (xs.take k) = true :=
  valid_of (fun x hx => valid_mem h x (List.mem_of_mem_take hx)) (by have := valid_len h; simp; omega)

set_option maxHeartbeats 1000000 in
theorem walk (A : Option Addr) (c : Nat) (bs : List Int) (A' : Option Addr) (c' : Nat) (ms : List Int) (w : World) (hx : Seq ByteV w A bs) (hl : bs.length ≤ maxLen) (hc : bs.length ≤ c) (hcm : c ≤ maxLen) (hw : ∀ n ∈ bs, (Lit.int .u8 n).wf = true)
    (hx' : Seq ByteV w A' ms) (hl' : ms.length ≤ maxLen) (hc' : ms.length ≤ c') (hcm' : c' ≤ maxLen) (hw' : ∀ n ∈ ms, (Lit.int .u8 n).wf = true) :
    Calls Try.prog 4 #[.slice A bs.length c, .slice A' ms.length c'] w (Yes w) := by
  have hby : ∀ b ∈ bs, 0 ≤ b ∧ b ≤ 255 := fun b hb => bounds_u8 (hw b hb)
  have HB := Lib.hid hby
  clear hw hw' hby hx' hc' hcm'
  by_cases hbig : 1048576 < bs.length
  · unfold maxLen at hl hl'
    go_enter Try.func4, Try.ntmps4
    go_wp2
    go_ret
    exact ⟨rfl, Below.refl _ _⟩
  by_cases hbig' : 1048576 < ms.length
  · have hb1 : decide (1048576 < (bs.length : Int)) = false := by simp; omega
    unfold maxLen at hl hl'
    go_enter Try.func4, Try.ntmps4
    go_wp2
    go_ret
    exact ⟨rfl, Below.refl _ _⟩
  have hb1 : decide (1048576 < (bs.length : Int)) = false := by simp; omega
  have hb2 : decide (1048576 < (ms.length : Int)) = false := by simp; omega
  go_enter Try.func4, Try.ntmps4
  go_wp2_with fail
  refine (drawPartsValid_any A c bs _ hx hl hc hcm HB.out).mono ?_
  rintro e w1 ⟨A1, c1, xs, rfl, hlst, hd, h1⟩
  clear hx hl hc hcm HB hb1 hb2
  have hlen := hd.1
  have HD := Lib.hid hd.2
  clear hd
  go_wp2_with fail
  refine (implPartsValid_any A1 c1 xs _ hlst.1 (by unfold maxLen; omega)).mono ?_
  rintro e w' ⟨rfl, rfl⟩
  go_wp2_with fail
  refine (specPartsValid_any A1 c1 xs _ hlst.1 (by unfold maxLen; omega)).mono ?_
  rintro e w' ⟨rfl, rfl⟩
  cases hv : partsValid xs
  · go_wp2_with fail
    go_ret
    exact ⟨rfl, h1⟩
  · obtain ⟨k, hk, hk1⟩ : ∃ k : Nat, (ms.length : Int) % ((xs.length : Int) + 1) = (k : Int) ∧ k ≤ xs.length :=
      ⟨ms.length % (xs.length + 1), by simp, by have := Nat.mod_lt ms.length (show 0 < xs.length + 1 by omega); omega⟩
    have hc1 : k ≤ c1 := by have := hlst.2.1; omega
    have HL := Lib.hid hlst
    have HV := Lib.hid hv
    clear hlst
    go_wp2_with fail
    have hl1 := HL.out.take hk1
    have hn1 : (xs.take k).length = k := by simp; omega
    have ha := implPartsValid_any A1 c1 (xs.take k) w1 hl1.1 (by unfold maxLen; omega)
    rw [less HV.out, hn1] at ha
    refine ha.mono ?_
    clear ha hn1 hl1
    rintro e w' ⟨rfl, rfl⟩
    go_wp2_with (at_builtin; refine appFresh (f := IntV) (.tmp 44) (.tmp 45) _ rfl (by rfl) w1 3 (.int .i64 0) 8 Try.underlying22 infoInt' rfl rfl A1 _ c1 xs rfl rfl HL.out (fun _ => rfl) (by omega) (by omega) ?_)
    intro A2 c2 ys w2 HY ho2 hb2
    have hy : ys.length ≤ 21 := by rw [HY.out]; exact hlen
    have hz2 := hb2.size
    go_wp2_with (at_builtin; refine appOne (f := IntV) (.tmp 46) (.tmp 47) _ rfl (by rfl) w2 w1.heap.size 3 (.int .i64 0) 8 Try.underlying22 infoInt' rfl A2 _ c2 ys rfl rfl ho2 100001 rfl (fun _ => rfl) (by omega) (by omega) hz2 ?_)
    intro A3 c3 zs w3 HZ ho3 hb3
    have hzl : zs.length ≤ 22 := by rw [HZ.out]; simp; omega
    have hz3 : partsValid zs = false := by rw [HZ.out]; exact big
    go_wp2_with fail
    refine (implPartsValid_any A3 c3 zs _ (Seq.of_own ho3) (by unfold maxLen; omega)).mono ?_
    rintro e w' ⟨rfl, rfl⟩
    go_wp2_with fail
    go_ret
    exact ⟨rfl, h1.trans ((hb2.trans hb3).mono h1.size)⟩
end Go.Proofs.Ytapmpggohcmljaa.fnParts
