/- The walk of the law FnTopSorted: for every code it returns true and leaves old memory alone. -/
import Derived.Test.YtajdcjimpnheoaaWords
import Derived.Test.YtajdcjimpnheoaaTopI
import Derived.Test.YtajdcjimpnheoaaTopS2
import Derived.Test.YtajdcjimpnheoaaDPartsTop
import Derived.OpenShut
import Derived.Deep.RegionLaw
namespace Go.Proofs.Ytajdcjimpnheoaa.fnTopSorted
open Go.RowKit
set_option linter.unusedVariables false

theorem facts {xs : List Int} {n : Int} (hv : partsValid xs = true) (hn : 0 ≤ n) :
    (abv (partsTop xs (n + 1) - partsTop xs n) xs).1 ≤ partsTop xs n ∧ (abv (partsTop xs (n + 1) - partsTop xs n) xs).2 ≤ n := by
  obtain ⟨m, rfl⟩ := Int.eq_ofNat_of_zero_le hn
  have e1 : partsTop xs ((m : Int) + 1) = top xs (m + 1) := partsTop_nat (n := m + 1) hv
  have e2 : partsTop xs (m : Int) = top xs m := partsTop_nat hv
  have s := top_succ xs m
  rw [e1, e2, show top xs (m + 1) - top xs m = nth xs m by omega]
  exact abv_top (valid_nonneg hv) m
theorem abv_snoc {b : Int} {xs : List Int} {k : Nat} {x : Int} (h : xs[k]? = some x) : abv b (xs.take (k + 1)) = if b < x then ((abv b (xs.take k)).1 + x, (abv b (xs.take k)).2 + 1) else abv b (xs.take k) := by
  rw [take_snoc' h, abv_append]
  simp only [abv]
  split <;> simp
theorem abv_bound {b : Int} {xs : List Int} (hv : partsValid xs = true) (k : Nat) : (0 ≤ (abv b (xs.take k)).1 ∧ (abv b (xs.take k)).1 ≤ 10000000) ∧ (0 ≤ (abv b (xs.take k)).2 ∧ (abv b (xs.take k)).2 ≤ 100) := by
  have hm : ∀ x ∈ xs.take k, 0 ≤ x ∧ x ≤ 100000 := fun x hx => valid_mem hv x (List.mem_of_mem_take hx)
  have h1 := abv_le (b := b) (l := xs.take k) fun x hx => (hm x hx).1
  have h2 := tot_le (xs := xs.take k) (m := 100000) fun x hx => (hm x hx).2
  have h3 : (xs.take k).length ≤ 20 := by have := valid_len hv; simp; omega
  omega

set_option maxHeartbeats 1000000 in
theorem walk (A : Option Addr) (c : Nat) (bs : List Int) (w : World) (hx : Seq ByteV w A bs) (hl : bs.length ≤ maxLen) (hc : bs.length ≤ c) (hcm : c ≤ maxLen) (hw : ∀ n ∈ bs, (Lit.int .u8 n).wf = true) :
    Calls Try.prog 10 #[.slice A bs.length c] w (Yes w) := by
  have hby : ∀ b ∈ bs, 0 ≤ b ∧ b ≤ 255 := fun b hb => bounds_u8 (hw b hb)
  have HB := Lib.hid hby
  clear hw hby
  by_cases hbig : 1048576 < bs.length
  · unfold maxLen at hl
    go_enter Try.func10, Try.ntmps10
    go_wp2
    go_ret
    exact ⟨rfl, Below.refl _ _⟩
  have hb1 : decide (1048576 < (bs.length : Int)) = false := by simp; omega
  go_enter Try.func10, Try.ntmps10
  go_wp2_with fail
  refine (drawPartsTop_any A c bs _ hx hl hc hcm HB.out).mono ?_
  rintro e w1 ⟨A1, c1, xs, n, rfl, hlst, hd, hints, h1⟩
  clear hx hl hc hcm HB hb1
  have hlen := hd.1
  have HW := Lib.hid (drawn_wf hd)
  have HL1 := Lib.hid hlst
  clear hd hlst
  have hi0 := hints.1
  have hi1 := hints.2
  clear hints
  go_wp2_with fail
  refine (implPartsTop_g A1 c1 xs (n) _ HL1.out (by omega) HW.out (WalkArith.wf_i64 (by omega))).mono ?_
  rintro e w2 ⟨rfl, hb2⟩
  have h2 := h1.trans (hb2.mono h1.size)
  have HL2 := Lib.hid (HL1.out.below hb2)
  clear HL1
  go_wp2_with fail
  refine (specPartsTop_g A1 c1 xs (n) _ HL2.out (by omega) HW.out (WalkArith.wf_i64 (by omega))).mono ?_
  rintro e w3 ⟨rfl, hb3⟩
  have h3 := h2.trans (hb3.mono h2.size)
  have HL3 := Lib.hid (HL2.out.below hb3)
  clear HL2
  by_cases hneg : partsTop xs n < 0
  · go_wp2_with fail
    go_ret
    exact ⟨rfl, h3⟩
  have hv := (partsTop_ge hneg).1
  have hn0 := (partsTop_ge hneg).2
  have HV := Lib.hid hv
  have hneg' : decide (partsTop xs n < 0) = false := decide_eq_false hneg
  have r01 := (partsTop_range xs n).1
  have r02 := (partsTop_range xs n).2
  clear hv
  have r11 := (partsTop_range xs (n + 1)).1
  have r12 := (partsTop_range xs (n + 1)).2
  have f := facts HV.out hn0
  have F := Lib.hid f
  clear f
  go_wp2_with fail
  refine (implPartsTop_g A1 c1 xs (n + 1) _ HL3.out (by omega) HW.out (WalkArith.wf_i64 (by omega))).mono ?_
  rintro e w4 ⟨rfl, hb4⟩
  have h4 := h3.trans (hb4.mono h3.size)
  have HL4 := Lib.hid (HL3.out.below hb4)
  clear HL3
  obtain ⟨b, hb⟩ : ∃ b : Int, b = partsTop xs (n + 1) - partsTop xs n := ⟨_, rfl⟩
  have HBB := Lib.hid hb
  have F2 : Hid ((abv b xs).1 ≤ partsTop xs n ∧ (abv b xs).2 ≤ n) := Lib.hid (by rw [hb]; exact F.out)
  have hbr0 : -3000000 ≤ b := by omega
  have hbr1 : b ≤ 3000000 := by omega
  clear F
  go_wp2_with fail
  rw [← hb]
  clear hb HBB
  go_loop [8, 9, 10] (fun s m i => ∃ k : Nat, k ≤ xs.length ∧ i = .int .i64 k ∧ s = .int .i64 (abv b (xs.take k)).1 ∧ m = .int .i64 (abv b (xs.take k)).2) (fun _ _ i => xs.length - (intOf i).toNat)
  case atStart => exact ⟨0, Nat.zero_le _, rfl, rfl, rfl⟩
  case round =>
    obtain ⟨k, hk, rfl, rfl, rfl⟩ := hrel
    have ab := abv_bound (b := b) HV.out k
    have ab0 := ab.1.1
    have ab1 := ab.1.2
    have ab2 := ab.2.1
    have ab3 := ab.2.2
    clear ab
    by_cases hlt : k < xs.length
    · obtain ⟨g, o, x, rfl, hgb, hxk, hcell⟩ := HL4.out.1.at_ hlt
      have hx0 := (valid_mem HV.out x (List.mem_of_getElem? hxk)).1
      have hx1 := (valid_mem HV.out x (List.mem_of_getElem? hxk)).2
      have HX := Lib.hid (abv_snoc (b := b) hxk)
      clear hxk
      by_cases hbx : b < x
      · go_wp2
        go_round
        case rel => exact ⟨k + 1, by omega, by go_num, by rw [HX.out, if_pos hbx], by rw [HX.out, if_pos hbx]⟩
        case measure => simp [intOf]; omega
      · go_wp2
        go_round
        case rel => exact ⟨k + 1, by omega, by go_num, by rw [HX.out, if_neg (by omega)], by rw [HX.out, if_neg (by omega)]⟩
        case measure => simp [intOf]; omega
    · have f1 : (abv b (xs.take k)).1 ≤ partsTop xs n := by rw [List.take_of_length_le (by omega)]; exact F2.out.1
      have f2 : (abv b (xs.take k)).2 ≤ n := by rw [List.take_of_length_le (by omega)]; exact F2.out.2
      go_wp2
      go_ret
      exact ⟨rfl, h4⟩
end Go.Proofs.Ytajdcjimpnheoaa.fnTopSorted
