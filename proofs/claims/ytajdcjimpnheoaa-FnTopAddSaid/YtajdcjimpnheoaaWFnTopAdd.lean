/- The walk of the law FnTopAdd: for every code it returns true and leaves old memory alone. -/
import Derived.Test.YtajdcjimpnheoaaWords
import Derived.Test.YtajdcjimpnheoaaTopI
import Derived.Test.YtajdcjimpnheoaaTopS2
import Derived.Test.YtajdcjimpnheoaaDPartsTop
import Derived.OpenShut
import Derived.Deep.RegionLaw
namespace Go.Proofs.Ytajdcjimpnheoaa.fnTopAdd
open Go.RowKit
set_option linter.unusedVariables false

theorem facts {xs : List Int} {n m : Int} (hv : partsValid xs = true) (hl : xs.length ≠ 20) (hn : 0 ≤ n) (hm : 0 ≤ m) (hm1 : m ≤ 1000) :
    partsTop xs n ≤ partsTop (xs ++ [m]) n ∧ partsTop (xs ++ [m]) n ≤ partsTop xs n + m ∧ (0 < n ∨ partsTop (xs ++ [m]) n = 0) := by
  have h := valid_iff.1 hv
  have hv2 : partsValid (xs ++ [m]) = true := valid_of (fun x hx => by
    rcases List.mem_append.1 hx with hx | hx
    · exact h.1 x hx
    · rw [List.mem_singleton] at hx; omega) (by simp; omega)
  rw [partsTop_yes hv hn, partsTop_yes hv2 hn]
  have := top_add (valid_nonneg hv) hm n.toNat
  refine ⟨this.1, this.2, ?_⟩
  rcases Int.lt_or_le 0 n with h0 | h0
  · exact .inl h0
  · right
    rw [show n.toNat = 0 by omega]
    exact top_zero _

set_option maxHeartbeats 1000000 in
theorem walk (A : Option Addr) (c : Nat) (bs : List Int) (A' : Option Addr) (c' : Nat) (ms : List Int) (w : World) (hx : Seq ByteV w A bs) (hl : bs.length ≤ maxLen) (hc : bs.length ≤ c) (hcm : c ≤ maxLen) (hw : ∀ n ∈ bs, (Lit.int .u8 n).wf = true) (hx' : Seq ByteV w A' ms) (hl' : ms.length ≤ maxLen) (hc' : ms.length ≤ c') (hcm' : c' ≤ maxLen) (hw' : ∀ n ∈ ms, (Lit.int .u8 n).wf = true) :
    Calls Try.prog 9 #[.slice A bs.length c, .slice A' ms.length c'] w (Yes w) := by
  have hby : ∀ b ∈ bs, 0 ≤ b ∧ b ≤ 255 := fun b hb => bounds_u8 (hw b hb)
  have HB := Lib.hid hby
  clear hw hby hw' hx' hc' hcm'
  by_cases hbig : 1048576 < bs.length
  · unfold maxLen at hl hl'
    go_enter Try.func9, Try.ntmps9
    go_wp2
    go_ret
    exact ⟨rfl, Below.refl _ _⟩
  by_cases hbig' : 1048576 < ms.length
  · have hb1 : decide (1048576 < (bs.length : Int)) = false := by simp; omega
    unfold maxLen at hl hl'
    go_enter Try.func9, Try.ntmps9
    go_wp2
    go_ret
    exact ⟨rfl, Below.refl _ _⟩
  have hb1 : decide (1048576 < (bs.length : Int)) = false := by simp; omega
  have hb2 : decide (1048576 < (ms.length : Int)) = false := by simp; omega
  go_enter Try.func9, Try.ntmps9
  go_wp2_with fail
  refine (drawPartsTop_any A c bs _ hx hl hc hcm HB.out).mono ?_
  rintro e w1 ⟨A1, c1, xs, n, rfl, hlst, hd, hints, h1⟩
  clear hx hl hc hcm HB hb1 hb2
  have hlen := hd.1
  have HW := Lib.hid (drawn_wf hd)
  have HL1 := Lib.hid hlst
  clear hd hlst
  have hi0 := hints.1
  have hi1 := hints.2
  clear hints
  go_wp2_with fail
  refine (implPartsTop_g A1 c1 xs (n) _ HL1.out (by omega) HW.out (WalkArith.wf_i64 (by omega))).mono ?_
  rintro e w2 ⟨rfl, hb2⟩
  have h2 := h1.trans (hb2.mono h1.size)
  have HL2 := Lib.hid (HL1.out.below hb2)
  clear HL1
  go_wp2_with fail
  refine (specPartsTop_g A1 c1 xs (n) _ HL2.out (by omega) HW.out (WalkArith.wf_i64 (by omega))).mono ?_
  rintro e w3 ⟨rfl, hb3⟩
  have h3 := h2.trans (hb3.mono h2.size)
  have HL3 := Lib.hid (HL2.out.below hb3)
  clear HL2
  by_cases hneg : partsTop xs n < 0
  · go_wp2_with fail
    go_ret
    exact ⟨rfl, h3⟩
  have hv := (partsTop_ge hneg).1
  have hn0 := (partsTop_ge hneg).2
  have HV := Lib.hid hv
  have hneg' : decide (partsTop xs n < 0) = false := decide_eq_false hneg
  have r01 := (partsTop_range xs n).1
  have r02 := (partsTop_range xs n).2
  clear hv
  obtain ⟨m, hm, hm1⟩ : ∃ m : Nat, (ms.length : Int) % 1000 = (m : Int) ∧ m < 1000 := ⟨ms.length % 1000, by simp, Nat.mod_lt _ (by omega)⟩
  by_cases h20 : xs.length = 20
  · have h20' : ((xs.length : Int) == 20) = true := by simp [h20]
    have H20 := Lib.hid h20
    clear h20
    go_wp2_with fail
    go_ret
    exact ⟨rfl, h3⟩
  have h20' : ((xs.length : Int) == 20) = false := beq_eq_false_iff_ne.2 (by omega)
  have H20 := Lib.hid h20
  clear h20
  go_wp2_with (at_builtin; refine appFresh (f := IntV) (.tmp 48) (.tmp 49) _ rfl (by rfl) w3 3 (.int .i64 0) 8 Try.underlying23 infoInt' rfl rfl A1 _ c1 xs rfl rfl HL3.out (fun _ => rfl) (by omega) (by omega) ?_)
  intro Ays cys ys w4 HQys ho4 hb4
  have hlenys : ys.length ≤ 26 := by rw [HQys.out]; omega
  have h4 := h3.trans (hb4.mono h3.size)
  have HL4 := Lib.hid (HL3.out.below hb4)
  have HWys : Hid (∀ n ∈ ys, (Lit.int .i64 n).wf = true) := Lib.hid (by rw [HQys.out]; exact HW.out)
  have hz4 := hb4.size
  go_wp2_with (at_builtin; refine appOne (f := IntV) (.tmp 50) (.tmp 52) _ rfl (by rfl) w4 w3.heap.size 3 (.int .i64 0) 8 Try.underlying23 infoInt' rfl Ays _ cys ys rfl rfl ho4 ((m : Int)) rfl (fun _ => rfl) (by omega) (by omega) hz4 ?_)
  intro Azs czs zs w5 HQzs ho5 hc5
  have hlenzs : zs.length ≤ 30 := by rw [HQzs.out]; simp; omega
  have HWzs : Hid (∀ n ∈ zs, (Lit.int .i64 n).wf = true) := Lib.hid (by rw [HQzs.out]; exact wf_snoc HWys.out (WalkArith.wf_i64 (by omega)))
  have hb5 := hb4.trans hc5
  have h5 := h3.trans (hb5.mono h3.size)
  have HL5 := Lib.hid (HL3.out.below hb5)
  have HLzs5 := Lib.hid (Lst.of_own ho5)
  clear ho5
  have f := facts HV.out H20.out hn0 (m := (m : Int)) (by omega) (by omega)
  have hzq : zs = xs ++ [(m : Int)] := by rw [HQzs.out, HQys.out]
  rw [← hzq] at f
  clear hzq
  have f1 := f.1
  have f2 := f.2.1
  have F3 := Lib.hid f.2.2
  have r11 := (partsTop_range zs n).1
  have r12 := (partsTop_range zs n).2
  clear f
  go_wp2_with fail
  refine (implPartsTop_g Azs czs zs (n) _ HLzs5.out (by omega) HWzs.out (WalkArith.wf_i64 (by omega))).mono ?_
  rintro e w6 ⟨rfl, hb6⟩
  have h6 := h5.trans (hb6.mono h5.size)
  have HL6 := Lib.hid (HL5.out.below hb6)
  clear HL5
  have HLzs6 := Lib.hid (HLzs5.out.below hb6)
  clear HLzs5
  by_cases hp : 0 < n
  · go_wp2_with fail
    go_ret
    exact ⟨rfl, h6⟩
  have hz : partsTop zs n = 0 := by rcases F3.out with h | h <;> omega
  have hz' : (partsTop zs n == 0) = true := by rw [hz]; rfl
  have HZ0 := Lib.hid hz
  clear hz
  have hp' : decide (0 < n) = false := decide_eq_false hp
  go_wp2_with fail
  go_ret
  exact ⟨rfl, h6⟩
end Go.Proofs.Ytajdcjimpnheoaa.fnTopAdd
