/- The walk of the law FnTopOrder: for every code it returns true and leaves old memory alone. -/
import Derived.Test.YtajdcjimpnheoaaWords
import Derived.Test.YtajdcjimpnheoaaTopI
import Derived.Test.YtajdcjimpnheoaaTopS2
import Derived.Test.YtajdcjimpnheoaaSumOf
import Derived.Test.YtajdcjimpnheoaaDPartsTop
import Derived.OpenShut
import Derived.Deep.RegionLaw
namespace Go.Proofs.Ytajdcjimpnheoaa.fnTopOrder
open Go.RowKit
set_option linter.unusedVariables false

theorem facts {xs ys : List Int} {n : Nat} {k : Nat} (hq : ys = xs.drop k ++ xs.take k) (hv : partsValid xs = true) :
    partsValid ys = true ∧ partsTop ys n = partsTop xs n ∧ tot (ys.take n) ≤ partsTop xs n := by
  have hp : ys.Perm xs := by rw [hq]; exact rot_perm xs k
  have hv2 : partsValid ys = true := by rw [valid_perm hp]; exact hv
  have h1 : partsTop ys n = partsTop xs n := by rw [partsTop_nat hv2, partsTop_nat hv, top_perm hp]
  refine ⟨hv2, h1, ?_⟩
  rw [← h1, partsTop_nat hv2]
  exact top_ge_take (valid_nonneg hv2) n

set_option maxHeartbeats 1000000 in
theorem walk (A : Option Addr) (c : Nat) (bs : List Int) (A' : Option Addr) (c' : Nat) (ms : List Int) (w : World) (hx : Seq ByteV w A bs) (hl : bs.length ≤ maxLen) (hc : bs.length ≤ c) (hcm : c ≤ maxLen) (hw : ∀ n ∈ bs, (Lit.int .u8 n).wf = true) (hx' : Seq ByteV w A' ms) (hl' : ms.length ≤ maxLen) (hc' : ms.length ≤ c') (hcm' : c' ≤ maxLen) (hw' : ∀ n ∈ ms, (Lit.int .u8 n).wf = true) :
    Calls Try.prog 11 #[.slice A bs.length c, .slice A' ms.length c'] w (Yes w) := by
  have hby : ∀ b ∈ bs, 0 ≤ b ∧ b ≤ 255 := fun b hb => bounds_u8 (hw b hb)
  have HB := Lib.hid hby
  clear hw hby hw' hx' hc' hcm'
  by_cases hbig : 1048576 < bs.length
  · unfold maxLen at hl hl'
    go_enter Try.func11, Try.ntmps11
    go_wp2
    go_ret
    exact ⟨rfl, Below.refl _ _⟩
  by_cases hbig' : 1048576 < ms.length
  · have hb1 : decide (1048576 < (bs.length : Int)) = false := by simp; omega
    unfold maxLen at hl hl'
    go_enter Try.func11, Try.ntmps11
    go_wp2
    go_ret
    exact ⟨rfl, Below.refl _ _⟩
  have hb1 : decide (1048576 < (bs.length : Int)) = false := by simp; omega
  have hb2 : decide (1048576 < (ms.length : Int)) = false := by simp; omega
  go_enter Try.func11, Try.ntmps11
  go_wp2_with fail
  refine (drawPartsTop_any A c bs _ hx hl hc hcm HB.out).mono ?_
  rintro e w1 ⟨A1, c1, xs, n, rfl, hlst, hd, hints, h1⟩
  clear hx hl hc hcm HB hb1 hb2
  have hlen := hd.1
  have HW := Lib.hid (drawn_wf hd)
  have HL1 := Lib.hid hlst
  clear hd hlst
  have hi0 := hints.1
  have hi1 := hints.2
  clear hints
  go_wp2_with fail
  refine (implPartsTop_g A1 c1 xs (n) _ HL1.out (by omega) HW.out (WalkArith.wf_i64 (by omega))).mono ?_
  rintro e w2 ⟨rfl, hb2⟩
  have h2 := h1.trans (hb2.mono h1.size)
  have HL2 := Lib.hid (HL1.out.below hb2)
  clear HL1
  go_wp2_with fail
  refine (specPartsTop_g A1 c1 xs (n) _ HL2.out (by omega) HW.out (WalkArith.wf_i64 (by omega))).mono ?_
  rintro e w3 ⟨rfl, hb3⟩
  have h3 := h2.trans (hb3.mono h2.size)
  have HL3 := Lib.hid (HL2.out.below hb3)
  clear HL2
  by_cases hneg : partsTop xs n < 0
  · go_wp2_with fail
    go_ret
    exact ⟨rfl, h3⟩
  have hv := (partsTop_ge hneg).1
  have hn0 := (partsTop_ge hneg).2
  have HV := Lib.hid hv
  have hneg' : decide (partsTop xs n < 0) = false := decide_eq_false hneg
  have r01 := (partsTop_range xs n).1
  have r02 := (partsTop_range xs n).2
  clear hv
  obtain ⟨q, rfl⟩ := Int.eq_ofNat_of_zero_le (a := n) hn0
  obtain ⟨k, hk, hk1⟩ : ∃ k : Nat, (ms.length : Int) % ((xs.length : Int) + 1) = (k : Int) ∧ k ≤ xs.length :=
    ⟨ms.length % (xs.length + 1), by simp, by have := Nat.mod_lt ms.length (show 0 < xs.length + 1 by omega); omega⟩
  have hkc : k ≤ c1 := by have := HL3.out.2.1; omega
  go_wp2_with fail
  rw [hk]
  clear hk
  go_region_law (first
    | (refine stepN (f := IntV) rfl (.tmp 47) (.tmp 50) _ rfl _ w3.heap.size 3 (.int .i64 0) 8 Try.underlying23 infoInt' rfl _ 0 0 [] rfl rfl (by exact own_empty w3 _) _ (xs.length - k) (c1 - k) (xs.drop k) (by simp) rfl (by exact (HL3.out.below ((Below.refl _ _).alloc (Nat.le_refl _) _)).drop hk1) (fun _ => rfl) (by omega) (by omega) (by omega) (by simp) ?_; intro Ar0 cr0 rt0 wr0 HR0 hor0 hbr0'; have hbr0 : Below w3.heap.size w3 wr0 := (((Below.refl _ _).alloc (Nat.le_refl _) _).drew).trans hbr0'; clear hbr0')
    | (refine stepN (f := IntV) rfl (.tmp 51) (.tmp 54) _ rfl _ w3.heap.size 3 (.int .i64 0) 8 Try.underlying23 infoInt' rfl Ar0 _ cr0 rt0 rfl rfl (by exact hor0) A1 k c1 (xs.take k) (by simp; omega) rfl (by exact (HL3.out.below hbr0).take hk1) (fun _ => rfl) (by rw [HR0.out]; simp; omega) (by omega) (by omega) hbr0.size ?_; intro Ays cys ys w4 HR1 ho4 hbr1))
  generalize (if c1 = k then A1 else Option.map (fun x => x.add k) A1) = A9
  have hb4 := hbr0.trans hbr1
  have HQys : Hid (ys = xs.drop k ++ xs.take k) := Lib.hid (by rw [HR1.out, HR0.out]; rfl)
  have hlenys : ys.length = xs.length := by rw [HQys.out]; simp; omega
  have HNys := Lib.hid hlenys
  have hleys : ys.length ≤ 30 := by omega
  clear hlenys HR1 HR0 hor0 hbr0 hbr1
  have HWys : Hid (∀ n ∈ ys, (Lit.int .i64 n).wf = true) := Lib.hid (fun n hn => HW.out n ((rot_perm _ _).mem_iff.1 (by rw [← HQys.out]; exact hn)))
  have h4 := h3.trans (hb4.mono h3.size)
  have HL4 := Lib.hid (HL3.out.below hb4)
  clear HL3
  have HLys4 := Lib.hid (Lst.of_own ho4)
  clear ho4
  have f := facts (n := q) HQys.out HV.out
  have HV2 := Lib.hid f.1
  have f1 : (partsTop ys q == partsTop xs q) = true := by rw [f.2.1]; simp
  have f2 := f.2.2
  clear f
  have hcap : ys.length ≤ cys := HLys4.out.2.1
  have hmn : (min (q : Int) (ys.length : Int)) ≤ (cys : Int) := by omega
  go_wp2_with fail
  refine (implPartsTop_g Ays cys ys (q) _ HLys4.out (by omega) HWys.out (WalkArith.wf_i64 (by omega))).mono ?_
  rintro e w5 ⟨rfl, hb5⟩
  have h5 := h4.trans (hb5.mono h4.size)
  have HL5 := Lib.hid (HL4.out.below hb5)
  clear HL4
  have HLys5 := Lib.hid (HLys4.out.below hb5)
  clear HLys4
  go_wp2_with fail
  refine (sumOf_any Ays cys (min (q : Int) (ys.length : Int)).toNat (ys.take q) _ (by rw [List.length_take]; omega) (HLys5.out.1.take q) (fun x hx => valid_mem HV2.out x (List.mem_of_mem_take hx)) (by omega)).mono ?_
  rintro e w' ⟨rfl, rfl⟩
  go_wp2_with fail
  go_ret
  exact ⟨rfl, h5⟩
end Go.Proofs.Ytajdcjimpnheoaa.fnTopOrder
