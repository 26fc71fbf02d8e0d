/- Contracts of PartsFew of program and reference. No condition beyond how the arguments lie in memory. -/
import Derived.Test.YtapmpggohcmljaaPartsOk
import Derived.WalkLawsBesides
namespace Go.Proofs.Ytapmpggohcmljaa
open Go.RowKit
set_option linter.unusedVariables false

def many : List Int → Int
  | [] => 0
  | x :: r => (if x = 0 then 0 else 1) + many r
theorem many_append (xs ys : List Int) : many (xs ++ ys) = many xs + many ys := by
  induction xs with
  | nil => simp [many]
  | cons x r ih => simp [many, ih]; omega
theorem many_nonneg (xs : List Int) : 0 ≤ many xs := by
  induction xs with
  | nil => simp [many]
  | cons x r ih => simp only [many]; split <;> omega
theorem many_le (xs : List Int) : many xs ≤ xs.length := by
  induction xs with
  | nil => simp [many]
  | cons x r ih => simp only [many, List.length_cons]; split <;> omega
theorem many_snoc {xs : List Int} {k : Nat} {x : Int} (h : xs[k]? = some x) : many (xs.take (k + 1)) = many (xs.take k) + (if x = 0 then 0 else 1) := by
  rw [take_snoc' h, many_append]; simp [many]
theorem partsOk_mem {xs : List Int} (h : partsOk xs = true) : ∀ x ∈ xs, 0 ≤ x ∧ x ≤ 100000 := by
  induction xs with
  | nil => simp
  | cons y r ih =>
    simp [partsOk, inB] at h
    intro x hx
    rcases List.mem_cons.1 hx with rfl | hx
    · omega
    · exact ih h.2 x hx
theorem partsOk_of {xs : List Int} (h : ∀ x ∈ xs, 0 ≤ x ∧ x ≤ 100000) : partsOk xs = true := by
  induction xs with
  | nil => rfl
  | cons y r ih =>
    have := h y (by simp)
    simp only [partsOk, Bool.and_eq_true]
    exact ⟨inB_yes this.1 this.2, ih fun x hx => h x (by simp [hx])⟩
theorem valid_len {xs : List Int} (h : partsValid xs = true) : xs.length ≤ 20 := by simp [partsValid] at h; omega
theorem valid_mem {xs : List Int} (h : partsValid xs = true) : ∀ x ∈ xs, 0 ≤ x ∧ x ≤ 100000 := by simp [partsValid] at h; exact partsOk_mem h.1
theorem valid_of {xs : List Int} (h : ∀ x ∈ xs, 0 ≤ x ∧ x ≤ 100000) (hl : xs.length ≤ 20) : partsValid xs = true := by simp [partsValid, partsOk_of h, hl]
theorem valid_iff {xs : List Int} : partsValid xs = true ↔ (∀ x ∈ xs, 0 ≤ x ∧ x ≤ 100000) ∧ xs.length ≤ 20 := ⟨fun h => ⟨valid_mem h, valid_len h⟩, fun h => valid_of h.1 h.2⟩

def partsFew (xs : List Int) (n : Int) : Bool := partsValid xs && decide (1 ≤ many xs ∧ many xs < n)
theorem partsFew_no {xs : List Int} (h : partsValid xs = false) (n : Int) : partsFew xs n = false := by simp [partsFew, h]
theorem partsFew_yes {xs : List Int} (h : partsValid xs = true) (n : Int) : partsFew xs n = decide (1 ≤ many xs ∧ many xs < n) := by simp [partsFew, h]
theorem few_end {xs : List Int} {k : Nat} {n : Int} {b : Bool} (h : partsValid xs = true) (hk : ¬ k < xs.length) (hb : b = decide (1 ≤ many (xs.take k) ∧ many (xs.take k) < n)) : b = partsFew xs n := by
  rw [List.take_of_length_le (by omega)] at hb
  rw [partsFew_yes h, hb]

set_option maxHeartbeats 400000 in
theorem implPartsFew_any (A : Option Addr) (c : Nat) (xs : List Int) (n : Int) (w : World) (hx : Seq IntV w A xs) (hl : xs.length ≤ maxLen) :
    Calls Try.prog 14 #[.slice A xs.length c, .int .i64 n] w fun e w' => e = .returned (.bool (partsFew xs n)) ∧ w = w' := by
  cases hv : partsValid xs
  · have HV := Lib.hid hv
    go_enter Try.func14, Try.ntmps14
    go_wp2_with fail
    refine (implPartsValid_any _ _ _ _ hx hl).mono ?_
    rintro e w' ⟨rfl, rfl⟩
    go_wp2_with fail
    go_ret
    exact ⟨ret_bool (partsFew_no HV.out n).symm, rfl⟩
  · have hlen := valid_len hv
    have HV := Lib.hid hv
    go_enter Try.func14, Try.ntmps14
    go_wp2_with fail
    refine (implPartsValid_any _ _ _ _ hx hl).mono ?_
    rintro e w' ⟨rfl, rfl⟩
    go_wp2_with fail
    clear hv hl
    go_loop [5, 13] (fun m i => ∃ k : Nat, k ≤ xs.length ∧ i = .int .i64 k ∧ m = .int .i64 (many (xs.take k))) (fun _ i => xs.length - (intOf i).toNat)
    case atStart => exact ⟨0, Nat.zero_le _, rfl, rfl⟩
    case round =>
      obtain ⟨k, hk, rfl, rfl⟩ := hrel
      have m0 := many_nonneg (xs.take k)
      have m1 : many (xs.take k) ≤ k := by have := many_le (xs.take k); have := List.length_take_le k xs; omega
      by_cases hlt : k < xs.length
      · obtain ⟨b, o, x, rfl, hb, hxk, hc⟩ := hx.at_ hlt
        have HX := Lib.hid hxk
        clear hxk
        by_cases h1 : x = 0
        · have h2 : (x != 0) = false := by simp [h1]
          have H1 := Lib.hid h1
          clear h1
          go_wp2
          go_round
          case rel => exact ⟨k + 1, by omega, by go_num, by rw [many_snoc HX.out, if_pos H1.out]; go_num⟩
          case measure => simp [intOf]; omega
        · have h2 : (x != 0) = true := by simp [h1]
          go_wp2
          go_round
          case rel => exact ⟨k + 1, by omega, by go_num, by rw [many_snoc HX.out, if_neg h1]⟩
          case measure => simp [intOf]; omega
      · by_cases h1 : 1 ≤ many (xs.take k)
        · by_cases h2 : many (xs.take k) < n
          · go_wp2
            go_ret
            exact ⟨ret_bool (few_end HV.out hlt (decide_eq_true (by omega)).symm), rfl⟩
          · have h2' : decide (many (xs.take k) < n) = false := by simpa using h2
            go_wp2
            go_ret
            exact ⟨ret_bool (few_end HV.out hlt (decide_eq_false (by omega)).symm), rfl⟩
        · have h1' : decide (1 ≤ many (xs.take k)) = false := by simpa using h1
          go_wp2
          go_ret
          exact ⟨ret_bool (few_end HV.out hlt (decide_eq_false (by omega)).symm), rfl⟩

set_option maxHeartbeats 400000 in
theorem specPartsFew_any (A : Option Addr) (c : Nat) (xs : List Int) (n : Int) (w : World) (hx : Seq IntV w A xs) (hl : xs.length ≤ maxLen) :
    Calls Try.prog 13 #[.slice A xs.length c, .int .i64 n] w fun e w' => e = .returned (.bool (partsFew xs n)) ∧ w = w' := by
  cases hv : partsValid xs
  · have HV := Lib.hid hv
    go_enter Try.func13, Try.ntmps13
    go_wp2_with fail
    refine (specPartsValid_any _ _ _ _ hx hl).mono ?_
    rintro e w' ⟨rfl, rfl⟩
    go_wp2_with fail
    go_ret
    exact ⟨ret_bool (partsFew_no HV.out n).symm, rfl⟩
  · have hlen := valid_len hv
    have HV := Lib.hid hv
    go_enter Try.func13, Try.ntmps13
    go_wp2_with fail
    refine (specPartsValid_any _ _ _ _ hx hl).mono ?_
    rintro e w' ⟨rfl, rfl⟩
    go_wp2_with fail
    clear hv hl
    go_loop [5, 6] (fun m i => ∃ k : Nat, k ≤ xs.length ∧ i = .int .i64 k ∧ m = .int .i64 (many (xs.take k))) (fun _ i => xs.length - (intOf i).toNat)
    case atStart => exact ⟨0, Nat.zero_le _, rfl, rfl⟩
    case round =>
      obtain ⟨k, hk, rfl, rfl⟩ := hrel
      have m0 := many_nonneg (xs.take k)
      have m1 : many (xs.take k) ≤ k := by have := many_le (xs.take k); have := List.length_take_le k xs; omega
      by_cases hlt : k < xs.length
      · obtain ⟨b, o, x, rfl, hb, hxk, hc⟩ := hx.at_ hlt
        have hr := valid_mem HV.out x (List.mem_of_getElem? hxk)
        have hr0 := hr.1
        have hr1 := hr.2
        have HX := Lib.hid hxk
        clear hxk hr
        by_cases h1 : x = 0
        · subst h1
          go_wp2
          go_round
          case rel => exact ⟨k + 1, by omega, by go_num, by rw [many_snoc HX.out, if_pos rfl]; go_num⟩
          case measure => simp [intOf]; omega
        · have h2 : 1 ≤ x := by omega
          go_wp2
          go_round
          case rel => exact ⟨k + 1, by omega, by go_num, by rw [many_snoc HX.out, if_neg h1]⟩
          case measure => simp [intOf]; omega
      · by_cases h1 : 0 < many (xs.take k)
        · by_cases h2 : many (xs.take k) < n
          · go_wp2
            go_ret
            exact ⟨ret_bool (few_end HV.out hlt (decide_eq_true (by omega)).symm), rfl⟩
          · have h2' : decide (many (xs.take k) < n) = false := by simpa using h2
            go_wp2
            go_ret
            exact ⟨ret_bool (few_end HV.out hlt (decide_eq_false (by omega)).symm), rfl⟩
        · have h1' : decide (0 < many (xs.take k)) = false := by simpa using h1
          go_wp2
          go_ret
          exact ⟨ret_bool (few_end HV.out hlt (decide_eq_false (by omega)).symm), rfl⟩
end Go.Proofs.Ytapmpggohcmljaa
