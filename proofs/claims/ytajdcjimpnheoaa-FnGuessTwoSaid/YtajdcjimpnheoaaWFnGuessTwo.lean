/- The walk of the law FnGuessTwo: for every code it returns true and leaves old memory alone. -/
import Derived.Test.YtajdcjimpnheoaaWords
import Derived.Test.YtajdcjimpnheoaaLeadI
import Derived.Test.YtajdcjimpnheoaaTopS2
import Derived.Test.YtajdcjimpnheoaaDPartsTop
import Derived.OpenShut
import Derived.Deep.RegionLaw
namespace Go.Proofs.Ytajdcjimpnheoaa.fnGuessTwo
open Go.RowKit
set_option linter.unusedVariables false

theorem pair_perm (a b : Int) : [b, a].Perm [a, b] := List.Perm.swap a b []
theorem two_tot (a b : Int) : tot [a, b] = a + b := by simp [tot]
theorem two_top2 (a b : Int) : top [a, b] 2 = a + b := by rw [top_all (by simp), two_tot]
theorem two_top1 {a b : Int} (ha : 1 ≤ a) (hb : 0 ≤ b) : 1 ≤ top [a, b] 1 := by
  have h := top_ge_take (xs := [a, b]) (fun x hx => by simp at hx; omega) 1
  simp [tot] at h
  omega
theorem two_valid {a b : Int} (ha : 0 ≤ a ∧ a ≤ 100000) (hb : 0 ≤ b ∧ b ≤ 100000) : partsValid [a, b] = true :=
  valid_of (fun x hx => by simp at hx; omega) (by simp)
theorem guess2 {a b p : Int} (ha : 1 ≤ a ∧ a ≤ 100000) (hb : 0 ≤ b ∧ b ≤ 100000) (hp : 1 ≤ p ∧ p ≤ 100) : partsGuess [a, b] p = true := by
  rw [guess_iff]
  refine ⟨two_valid (by omega) hb, by omega, ?_⟩
  rw [need, two_tot, two_top2]
  have h1 := two_top1 ha.1 hb.1
  have h2 : 0 < top [a, b] 1 * p := Int.mul_pos (by omega) (by omega)
  omega
theorem guess1 {a : Int} (ha : 1 ≤ a ∧ a ≤ 100000) : partsGuess [a] 1 = true := by
  rw [guess_iff]
  refine ⟨valid_of (fun x hx => by simp at hx; omega) (by simp), by omega, ?_⟩
  rw [need, top_all (by simp), top_all (by simp)]
  simp [tot]; omega
theorem lead2 {a b p : Int} (ha : 1 ≤ a ∧ a ≤ 100000) (hb : 0 ≤ b ∧ b ≤ 100000) (hp : 0 ≤ p ∧ p ≤ 99) : partsLead [b, a] 2 p = true := by
  rw [lead_iff]
  refine ⟨two_valid hb (by omega), by omega, by omega, ?_⟩
  show p * tot [b, a] < top [b, a] 2 * 100
  rw [two_tot, two_top2]
  have h2 : p * (b + a) ≤ 99 * (b + a) := Int.mul_le_mul_of_nonneg_right hp.2 (by omega)
  omega

set_option maxHeartbeats 1000000 in
theorem walk (A : Option Addr) (c : Nat) (bs : List Int) (A' : Option Addr) (c' : Nat) (ms : List Int) (w : World) (hx : Seq ByteV w A bs) (hl : bs.length ≤ maxLen) (hc : bs.length ≤ c) (hcm : c ≤ maxLen) (hw : ∀ n ∈ bs, (Lit.int .u8 n).wf = true) (hx' : Seq ByteV w A' ms) (hl' : ms.length ≤ maxLen) (hc' : ms.length ≤ c') (hcm' : c' ≤ maxLen) (hw' : ∀ n ∈ ms, (Lit.int .u8 n).wf = true) :
    Calls Try.prog 14 #[.slice A bs.length c, .slice A' ms.length c'] w (Yes w) := by
  have hby : ∀ b ∈ bs, 0 ≤ b ∧ b ≤ 255 := fun b hb => bounds_u8 (hw b hb)
  have HB := Lib.hid hby
  clear hw hby hw' hx' hc' hcm'
  by_cases hbig : 1048576 < bs.length
  · unfold maxLen at hl hl'
    go_enter Try.func14, Try.ntmps14
    go_wp2
    go_ret
    exact ⟨rfl, Below.refl _ _⟩
  by_cases hbig' : 1048576 < ms.length
  · have hb1 : decide (1048576 < (bs.length : Int)) = false := by simp; omega
    unfold maxLen at hl hl'
    go_enter Try.func14, Try.ntmps14
    go_wp2
    go_ret
    exact ⟨rfl, Below.refl _ _⟩
  have hb1 : decide (1048576 < (bs.length : Int)) = false := by simp; omega
  have hb2 : decide (1048576 < (ms.length : Int)) = false := by simp; omega
  go_enter Try.func14, Try.ntmps14
  go_wp2_with fail
  refine (drawPartsTop_any A c bs _ hx hl hc hcm HB.out).mono ?_
  rintro e w1 ⟨A1, c1, xs, n, rfl, hlst, hd, hints, h1⟩
  clear hx hl hc hcm HB hb1 hb2
  have hlen := hd.1
  have HW := Lib.hid (drawn_wf hd)
  have HL1 := Lib.hid hlst
  clear hd hlst
  have hi0 := hints.1
  have hi1 := hints.2
  clear hints
  go_wp2_with fail
  refine (implPartsTop_g A1 c1 xs (n) _ HL1.out (by omega) HW.out (WalkArith.wf_i64 (by omega))).mono ?_
  rintro e w2 ⟨rfl, hb2⟩
  have h2 := h1.trans (hb2.mono h1.size)
  have HL2 := Lib.hid (HL1.out.below hb2)
  clear HL1
  go_wp2_with fail
  refine (specPartsTop_g A1 c1 xs (n) _ HL2.out (by omega) HW.out (WalkArith.wf_i64 (by omega))).mono ?_
  rintro e w3 ⟨rfl, hb3⟩
  have h3 := h2.trans (hb3.mono h2.size)
  have HL3 := Lib.hid (HL2.out.below hb3)
  clear HL2
  by_cases hneg : partsTop xs n < 0
  · go_wp2_with fail
    go_ret
    exact ⟨rfl, h3⟩
  have hneg' : decide (partsTop xs n < 0) = false := decide_eq_false hneg
  obtain ⟨a, ha, ha1⟩ : ∃ a : Nat, (ms.length : Int) % 300 = (a : Int) ∧ a < 300 := ⟨ms.length % 300, by simp, Nat.mod_lt _ (by omega)⟩
  obtain ⟨b, hb, hb1⟩ : ∃ a : Nat, (ms.length : Int) % 7 = (a : Int) ∧ a < 7 := ⟨ms.length % 7, by simp, Nat.mod_lt _ (by omega)⟩
  obtain ⟨p, hp, hp1⟩ : ∃ a : Nat, (ms.length : Int) % 100 = (a : Int) ∧ a < 100 := ⟨ms.length % 100, by simp, Nat.mod_lt _ (by omega)⟩
  have f1 := guess2 (a := 1 + (a : Int)) (b := (b : Int) * 10) (p := 1 + (p : Int)) (by omega) (by omega) (by omega)
  have f2 := guess1 (a := 1 + (a : Int)) (by omega)
  have f3 := lead2 (a := 1 + (a : Int)) (b := (b : Int) * 10) (p := (p : Int)) (by omega) (by omega) (by omega)
  go_wp2_with fail
  have ha1 : Below w3.heap.size w3 (w3.alloc (.cells #[.int .i64 (1 + (a : Int)), .int .i64 ((b : Int) * 10)] 3)) := (Below.refl _ _).alloc (Nat.le_refl _) _
  refine (implPartsGuess_g (some ⟨w3.heap.size, 0, none⟩) 2 [1 + (a : Int), (b : Int) * 10] (1 + (p : Int)) _ (Lst.lit w3 3 _ [1 + (a : Int), (b : Int) * 10] 2 rfl rfl (by omega)) (by simp) (fun z hz => WalkArith.wf_i64 (by simp at hz; omega)) (WalkArith.wf_i64 (by omega))).mono ?_
  rintro e w4 ⟨rfl, hb4'⟩
  have hb4 := ha1.trans (hb4'.mono ha1.size)
  clear ha1 hb4'
  have h4 := h3.trans (hb4.mono h3.size)
  have HL4 := Lib.hid (HL3.out.below hb4)
  clear HL3
  go_wp2_with fail
  have ha2 : Below w4.heap.size w4 (w4.alloc (.cells #[.int .i64 (1 + (a : Int))] 3)) := (Below.refl _ _).alloc (Nat.le_refl _) _
  refine (implPartsGuess_g (some ⟨w4.heap.size, 0, none⟩) 1 [1 + (a : Int)] (1) _ (Lst.lit w4 3 _ [1 + (a : Int)] 1 rfl rfl (by omega)) (by simp) (fun z hz => WalkArith.wf_i64 (by simp at hz; omega)) (WalkArith.wf_i64 (by omega))).mono ?_
  rintro e w5 ⟨rfl, hb5'⟩
  have hb5 := ha2.trans (hb5'.mono ha2.size)
  clear ha2 hb5'
  have h5 := h4.trans (hb5.mono h4.size)
  have HL5 := Lib.hid (HL4.out.below hb5)
  clear HL4
  go_wp2_with fail
  have ha3 : Below w5.heap.size w5 (w5.alloc (.cells #[.int .i64 ((b : Int) * 10), .int .i64 (1 + (a : Int))] 3)) := (Below.refl _ _).alloc (Nat.le_refl _) _
  refine (implPartsLead_g (some ⟨w5.heap.size, 0, none⟩) 2 [(b : Int) * 10, 1 + (a : Int)] (2) ((p : Int)) _ (Lst.lit w5 3 _ [(b : Int) * 10, 1 + (a : Int)] 2 rfl rfl (by omega)) (by simp) (fun z hz => WalkArith.wf_i64 (by simp at hz; omega)) (WalkArith.wf_i64 (by omega)) (WalkArith.wf_i64 (by omega))).mono ?_
  rintro e w6 ⟨rfl, hb6'⟩
  have hb6 := ha3.trans (hb6'.mono ha3.size)
  clear ha3 hb6'
  have h6 := h5.trans (hb6.mono h5.size)
  have HL6 := Lib.hid (HL5.out.below hb6)
  clear HL5
  go_wp2_with fail
  go_ret
  exact ⟨rfl, h6⟩
end Go.Proofs.Ytajdcjimpnheoaa.fnGuessTwo
