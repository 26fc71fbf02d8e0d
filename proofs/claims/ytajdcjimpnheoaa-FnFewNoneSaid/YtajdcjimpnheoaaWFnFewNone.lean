/- The walk of the law FnFewNone: for every code it returns true and leaves old memory alone. -/
import Derived.Test.YtajdcjimpnheoaaWords
import Derived.Test.YtajdcjimpnheoaaLeadI
import Derived.Test.YtajdcjimpnheoaaPartsFewI
import Derived.Test.YtajdcjimpnheoaaDPartsValid
import Derived.OpenShut
import Derived.Deep.RegionLaw
namespace Go.Proofs.Ytajdcjimpnheoaa.fnFewNone
open Go.RowKit
set_option linter.unusedVariables false

theorem zeros_valid {xs : List Int} (h : partsValid xs = true) : partsValid (List.replicate xs.length 0) = true :=
  valid_of (fun x hx => by have := List.eq_of_mem_replicate hx; omega) (by simpa using valid_len h)
theorem many_zeros (n : Nat) : many (List.replicate n 0) = 0 := by
  induction n with
  | zero => rfl
  | succ n ih => simp [List.replicate_succ, many, ih]
theorem top_zeros (n k : Nat) : top (List.replicate n 0) k = 0 := by
  have h0 : ∀ x ∈ List.replicate n (0 : Int), 0 ≤ x := fun x hx => by have := List.eq_of_mem_replicate hx; omega
  have h1 := top_le_tot h0 k
  have h2 := top_nonneg h0 k
  rw [tot_zero] at h1
  omega
theorem few0 {xs : List Int} : partsFew (List.replicate xs.length 0) 3 = false := by simp [partsFew, many_zeros]
theorem lead0 {xs : List Int} {p : Int} : partsLead (List.replicate xs.length 0) 2 p = false := by simp [partsLead, top_zeros, tot_zero]
theorem need0 (n : Nat) (p : Int) : need (List.replicate n 0) p = 0 := by simp [need, top_zeros, tot_zero]
theorem guess0 {xs : List Int} {p : Int} : partsGuess (List.replicate xs.length 0) p = false := by simp [partsGuess, need0]
theorem spare0 {xs : List Int} {p : Int} (h : partsValid xs = true) (hp : 0 ≤ p ∧ p ≤ 100) : partsSpare (List.replicate xs.length 0) p = 0 := by
  rw [spare_yes (zeros_valid h) hp, need0]; simp

set_option maxHeartbeats 1000000 in
theorem walk (A : Option Addr) (c : Nat) (bs : List Int) (A' : Option Addr) (c' : Nat) (ms : List Int) (w : World) (hx : Seq ByteV w A bs) (hl : bs.length ≤ maxLen) (hc : bs.length ≤ c) (hcm : c ≤ maxLen) (hw : ∀ n ∈ bs, (Lit.int .u8 n).wf = true) (hx' : Seq ByteV w A' ms) (hl' : ms.length ≤ maxLen) (hc' : ms.length ≤ c') (hcm' : c' ≤ maxLen) (hw' : ∀ n ∈ ms, (Lit.int .u8 n).wf = true) :
    Calls Try.prog 8 #[.slice A bs.length c, .slice A' ms.length c'] w (Yes w) := by
  have hby : ∀ b ∈ bs, 0 ≤ b ∧ b ≤ 255 := fun b hb => bounds_u8 (hw b hb)
  have HB := Lib.hid hby
  clear hw hby hw' hx' hc' hcm'
  by_cases hbig : 1048576 < bs.length
  · unfold maxLen at hl hl'
    go_enter Try.func8, Try.ntmps8
    go_wp2
    go_ret
    exact ⟨rfl, Below.refl _ _⟩
  by_cases hbig' : 1048576 < ms.length
  · have hb1 : decide (1048576 < (bs.length : Int)) = false := by simp; omega
    unfold maxLen at hl hl'
    go_enter Try.func8, Try.ntmps8
    go_wp2
    go_ret
    exact ⟨rfl, Below.refl _ _⟩
  have hb1 : decide (1048576 < (bs.length : Int)) = false := by simp; omega
  have hb2 : decide (1048576 < (ms.length : Int)) = false := by simp; omega
  go_enter Try.func8, Try.ntmps8
  go_wp2_with fail
  refine (drawPartsValid_any A c bs _ hx hl hc hcm HB.out).mono ?_
  rintro e w1 ⟨A1, c1, xs, rfl, hlst, hd, h1⟩
  clear hx hl hc hcm HB hb1 hb2
  have hlen := hd.1
  have HW := Lib.hid (drawn_wf hd)
  have HL1 := Lib.hid hlst
  clear hd hlst
  go_wp2_with fail
  refine (implPartsValid_any A1 c1 xs _ HL1.out.1 (by unfold maxLen; omega)).mono ?_
  rintro e w' ⟨rfl, rfl⟩
  go_wp2_with fail
  refine (specPartsValid_any A1 c1 xs _ HL1.out.1 (by unfold maxLen; omega)).mono ?_
  rintro e w' ⟨rfl, rfl⟩
  cases hv : partsValid xs
  · go_wp2_with fail
    go_ret
    exact ⟨rfl, h1⟩
  have HV := Lib.hid hv
  obtain ⟨k, hk, hk1⟩ : ∃ k : Nat, (ms.length : Int) % 101 = (k : Int) ∧ k ≤ 100 := ⟨ms.length % 101, by simp, by have := Nat.mod_lt ms.length (show 0 < 101 by omega); omega⟩
  have hmk := run_make_row' (P := Try.prog) 23 3 (.int .i64 0) 8 Try.underlying23 infoInt' rfl .i64 .i64 xs.length (by omega) (by omega)
  have hown := own_made w1 (.int .i64 0) xs.length 3 (by unfold maxLen; omega)
  have hb2 : Below w1.heap.size w1 (w1.alloc (.cells (madeCells #[.int .i64 0] xs.length) 3)) := (Below.refl _ _).alloc (Nat.le_refl _) _
  have HO := Lib.hid hown
  have HB2 := Lib.hid hb2
  clear hown hb2
  go_wp2_with fail
  have hown := HO.out
  have hb2 := HB2.out
  revert hown hb2
  generalize w1.alloc (.cells (madeCells #[.int .i64 0] xs.length) 3) = w2
  intro hown hb2
  clear HO HB2 hmk
  obtain ⟨ys, hq⟩ : ∃ l : List Int, l = List.replicate xs.length 0 := ⟨_, rfl⟩
  have hql : ys.length = xs.length := by rw [hq]; simp
  have hL := Lst.of_own (f := IntV) (xs := ys) (w := w2) (base := w1.heap.size) (e := 3) (A := some ⟨w1.heap.size, 0, none⟩) (c := xs.length) (by rw [hql, hq, List.map_replicate]; exact hown)
  have HWys : Hid (∀ n ∈ ys, (Lit.int .i64 n).wf = true) := Lib.hid (fun n hn => by rw [hq] at hn; have := List.eq_of_mem_replicate hn; exact WalkArith.wf_i64 (by omega))
  have f1 : partsFew ys 3 = false := by rw [hq]; exact few0
  have f2 : partsLead ys 2 k = false := by rw [hq]; exact lead0
  have f3 : partsGuess ys k = false := by rw [hq]; exact guess0
  have f4 : (partsSpare ys k == 0) = true := by rw [hq, spare0 HV.out (by omega)]; rfl
  have hle : ys.length ≤ 21 := by omega
  have h2 := h1.trans (hb2.mono h1.size)
  rw [← hql] at hL
  rw [← hql, hk]
  have HLy2 := Lib.hid hL
  clear hq hql hL hown hk
  refine (implPartsFew_any (some ⟨w1.heap.size, 0, none⟩) ys.length ys 3 _ HLy2.out.1 (by unfold maxLen; omega)).mono ?_
  rintro e w' ⟨rfl, rfl⟩
  go_wp2_with fail
  refine (implPartsLead_g (some ⟨w1.heap.size, 0, none⟩) ys.length ys (2) (k) _ HLy2.out (by omega) HWys.out (WalkArith.wf_i64 (by omega)) (WalkArith.wf_i64 (by omega))).mono ?_
  rintro e w3 ⟨rfl, hb3⟩
  have h3 := h2.trans (hb3.mono h2.size)
  have HLy3 := Lib.hid (HLy2.out.below hb3)
  clear HLy2
  go_wp2_with fail
  refine (implPartsGuess_g (some ⟨w1.heap.size, 0, none⟩) ys.length ys (k) _ HLy3.out (by omega) HWys.out (WalkArith.wf_i64 (by omega))).mono ?_
  rintro e w4 ⟨rfl, hb4⟩
  have h4 := h3.trans (hb4.mono h3.size)
  have HLy4 := Lib.hid (HLy3.out.below hb4)
  clear HLy3
  go_wp2_with fail
  refine (implPartsSpare_g (some ⟨w1.heap.size, 0, none⟩) ys.length ys (k) _ HLy4.out (by omega) HWys.out (WalkArith.wf_i64 (by omega))).mono ?_
  rintro e w5 ⟨rfl, hb5⟩
  have h5 := h4.trans (hb5.mono h4.size)
  have HLy5 := Lib.hid (HLy4.out.below hb5)
  clear HLy4
  go_wp2_with fail
  go_ret
  exact ⟨rfl, h5⟩
end Go.Proofs.Ytajdcjimpnheoaa.fnFewNone
