/- Contracts of total, TableSums and TableTotal of the program. -/
import Derived.Test.YtncnghmadeghlaaSumsOf
import Derived.Test.YtncnghmadeghlaaSumL
import Derived.Test.YtncnghmadeghlaaTabValidI
namespace Go.Proofs.Ytncnghmadeghlaa
open Go.RowKit
set_option linter.unusedVariables false
set_option maxHeartbeats 400000 in
theorem total_any (A : Option Addr) (c : Nat) (xs : List Int) (w : World) (hx : Lst IntV w A c xs) (hl : xs.length ≤ 100) (hM : ∀ x ∈ xs, -1000000 ≤ x ∧ x ≤ 1000000) :
    Calls Try.prog 63 #[.slice A xs.length c] w fun e w' => e = .returned (.int .i64 xs.sum) ∧ w = w' := by
  have HM := Lib.hid hM
  have HX := Lib.hid hx
  clear hM hx
  go_enter Try.func63, Try.ntmps63
  go_wp2_with fail
  go_loop [3, 8] (fun s i => ∃ k : Nat, k ≤ xs.length ∧ i = .int .i64 k ∧ s = .int .i64 (xs.take k).sum) (fun _ i => xs.length - (intOf i).toNat)
  case atStart => exact ⟨0, Nat.zero_le _, rfl, rfl⟩
  case round =>
    obtain ⟨k, hk, rfl, rfl⟩ := hrel
    have hp := sum_part hl HM.out k
    have hp0 := hp.1
    have hp1 := hp.2
    clear hp
    by_cases hlt : k < xs.length
    · obtain ⟨b, o, x, rfl, hb, hxk, hc⟩ := HX.out.1.at_ hlt
      have hm := HM.out x (List.mem_of_getElem? hxk)
      have hm0 := hm.1
      have hm1 := hm.2
      have HS := Lib.hid (sum_take hxk)
      clear hxk hm
      go_wp2_with fail
      go_round
      case rel => exact ⟨k + 1, by omega, by go_num, by rw [HS.out]⟩
      case measure => simp [intOf]; omega
    · go_wp2_with fail
      go_ret
      exact ⟨ret_int (by rw [List.take_of_length_le (by omega)]), rfl⟩

theorem rowL_mem {h wd : Nat} {G : Nat → Nat → Int} {M : Int} (hG : ∀ i j, 0 ≤ G i j ∧ G i j ≤ M) {x : Int} (hx : x ∈ rowL h wd G) : 0 ≤ x ∧ x ≤ wd * M := by
  obtain ⟨i, hi, rfl⟩ := mkL_mem.1 hx
  exact ⟨sumN_nonneg fun j _ => (hG i j).1, sumN_max fun j _ => (hG i j).2⟩
theorem colL_mem {h wd : Nat} {G : Nat → Nat → Int} {M : Int} (hG : ∀ i j, 0 ≤ G i j ∧ G i j ≤ M) {x : Int} (hx : x ∈ colL h wd G) : 0 ≤ x ∧ x ≤ h * M := by
  obtain ⟨i, hi, rfl⟩ := mkL_mem.1 hx
  exact ⟨sumN_nonneg fun j _ => (hG j i).1, sumN_max fun j _ => (hG j i).2⟩
/-- the sum of all cells -/
def tot (h wd : Nat) (G : Nat → Nat → Int) : Int := sumN h fun i => sumN wd (G i)
theorem sum_rowL (h wd : Nat) (G : Nat → Nat → Int) : (rowL h wd G).sum = tot h wd G := sum_mkL _ _
theorem sum_colL (h wd : Nat) (G : Nat → Nat → Int) : (colL h wd G).sum = tot h wd G := by rw [colL, sum_mkL, tot, sumN_swap]
theorem tot_range {h wd : Nat} {G : Nat → Nat → Int} (g : Good h wd G) : 0 ≤ tot h wd G ∧ tot h wd G ≤ 1584 := by
  have h4 := g.h4; have w4 := g.w4
  have h1 : ∀ i, i < h → 0 ≤ sumN wd (G i) := fun i _ => sumN_nonneg fun j _ => g.lo i j
  have h2 : ∀ i, i < h → sumN wd (G i) ≤ 396 := fun i _ => by
    have := sumN_max (n := wd) (f := G i) (c := 99) fun j _ => g.hi i j
    omega
  have h3 := sumN_max h2
  exact ⟨sumN_nonneg h1, by unfold tot; omega⟩

set_option maxHeartbeats 400000 in
theorem implSums_no (A : Option Addr) (c : Nat) (t : List (List Int)) (w : World) (hx : Tab IntV w A t) (hl : t.length ≤ maxLen) (hv : tabValid t = false) :
    Calls Try.prog 31 #[.slice A t.length c] w fun e w' => e = .returned (.tuple #[.slice none 0 0, .slice none 0 0, .bool false]) ∧ w = w' := by
  go_enter Try.func31, Try.ntmps31
  go_wp2_with fail
  refine (implTableValid_any A c t _ hx hl).mono ?_
  rintro e w' ⟨rfl, rfl⟩
  go_wp2_with fail
  go_ret3
  exact ⟨rfl, rfl⟩
set_option maxHeartbeats 400000 in
theorem implSums_yes (A : Option Addr) (c h wd : Nat) (G : Nat → Nat → Int) (w : World) (hx : Tab IntV w A (mkT h wd G)) (g : Good h wd G) :
    Calls Try.prog 31 #[.slice A h c] w (GotLL IntV 3 w (rowL h wd G) (colL h wd G) true) := by
  have hv := g.valid
  have hc := implTableValid_any A c (mkT h wd G) w hx (by rw [mkT_len]; have := g.h4; unfold maxLen; omega)
  rw [mkT_len, hv] at hc
  have HC := Lib.hid hc
  clear hc hv
  go_enter Try.func31, Try.ntmps31
  go_wp2_with fail
  refine HC.out.mono ?_
  rintro e w' ⟨rfl, rfl⟩
  go_wp2_with fail
  refine (sumsOf_any A c h wd G _ hx g.h1 g.h4 g.w1 g.w4 (fun i j => ⟨g.lo i j, by have := g.hi i j; omega⟩)).mono ?_
  rintro e w1 ⟨A1, c1, B1, d1, rfl, o1, o2, hne, hb⟩
  go_wp2_with fail
  go_ret3
  exact ⟨A1, c1, B1, d1, rfl, o1, o2, hne, hb⟩
set_option maxHeartbeats 400000 in
theorem implTotal_no (A : Option Addr) (c : Nat) (t : List (List Int)) (w : World) (hx : Tab IntV w A t) (hl : t.length ≤ maxLen) (hv : tabValid t = false) :
    Calls Try.prog 30 #[.slice A t.length c] w fun e w' => e = .returned (.int .i64 (-1)) ∧ w = w' := by
  go_enter Try.func30, Try.ntmps30
  go_wp2_with fail
  refine (implTableValid_any A c t _ hx hl).mono ?_
  rintro e w' ⟨rfl, rfl⟩
  go_wp2_with fail
  go_ret
  exact ⟨rfl, rfl⟩
set_option maxHeartbeats 400000 in
theorem implTotal_yes (A : Option Addr) (c h wd : Nat) (G : Nat → Nat → Int) (w : World) (hx : Tab IntV w A (mkT h wd G)) (g : Good h wd G) :
    Calls Try.prog 30 #[.slice A h c] w (Gives (.int .i64 (tot h wd G)) w) := by
  have hv := g.valid
  have h4 := g.h4
  have w4 := g.w4
  have hc := implTableValid_any A c (mkT h wd G) w hx (by rw [mkT_len]; unfold maxLen; omega)
  rw [mkT_len, hv] at hc
  have HC := Lib.hid hc
  have hlr : (rowL h wd G).length ≤ 100 := by rw [rowL, mkL_len]; omega
  have HM : Hid (∀ x ∈ rowL h wd G, -1000000 ≤ x ∧ x ≤ 1000000) := Lib.hid fun x hx => by
    have := rowL_mem (M := 99) (fun i j => ⟨g.lo i j, g.hi i j⟩) hx
    omega
  clear hc hv
  go_enter Try.func30, Try.ntmps30
  go_wp2_with fail
  refine HC.out.mono ?_
  rintro e w' ⟨rfl, rfl⟩
  go_wp2_with fail
  refine (sumsOf_any A c h wd G _ hx g.h1 g.h4 g.w1 g.w4 (fun i j => ⟨g.lo i j, by have := g.hi i j; omega⟩)).mono ?_
  rintro e w1 ⟨A1, c1, B1, d1, rfl, o1, o2, hne, hb⟩
  go_wp2_with fail
  refine (total_any A1 c1 (rowL h wd G) _ (Lst.of_own o1) hlr HM.out).mono ?_
  rintro e w' ⟨rfl, rfl⟩
  go_wp2_with fail
  go_ret
  exact ⟨ret_int (sum_rowL _ _ _), hb⟩
end Go.Proofs.Ytncnghmadeghlaa
