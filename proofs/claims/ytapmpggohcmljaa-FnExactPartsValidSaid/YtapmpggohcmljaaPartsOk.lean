/- Contracts of the functions on contributions without sorting: PartsValid of program and reference, l6In, toIntS, eqIntS. No condition beyond how the arguments lie in memory. -/
import Derived.Test.YtapmpggohcmljaaMem
import Derived.Test.YtapmpggohcmljaaRows
import Derived.Outline
import Derived.Deep.QuietTactic
import Derived.BigQuiet
namespace Go.Proofs.Ytapmpggohcmljaa
open Go.RowKit

def inB (n lo hi : Int) : Bool := decide (lo ≤ n ∧ n ≤ hi)
theorem inB_yes {n lo hi : Int} (h1 : lo ≤ n) (h2 : n ≤ hi) : inB n lo hi = true := by simp [inB, h1, h2]
theorem inB_no {n lo hi : Int} (h : n < lo ∨ hi < n) : inB n lo hi = false := by simp [inB]; omega
def partsOk : List Int → Bool
  | [] => true
  | x :: r => inB x 0 100000 && partsOk r
def partsValid (xs : List Int) : Bool := partsOk xs && decide (xs.length ≤ 20)

theorem partsOk_step {xs : List Int} {k : Nat} {x : Int} (h : xs[k]? = some x) : partsOk (xs.drop k) = (inB x 0 100000 && partsOk (xs.drop (k + 1))) := by
  rw [drop_cons h]; rfl
theorem partsOk_next {xs : List Int} {k : Nat} {x : Int} (h : xs[k]? = some x) (hP : partsOk xs = partsOk (xs.drop k)) (h1 : 0 ≤ x) (h2 : x ≤ 100000) : partsOk xs = partsOk (xs.drop (k + 1)) := by
  rw [hP, partsOk_step h, inB_yes h1 h2, Bool.true_and]
theorem partsValid_bad {xs : List Int} {k : Nat} {x : Int} (h : xs[k]? = some x) (hP : partsOk xs = partsOk (xs.drop k)) (h1 : x < 0 ∨ 100000 < x) : partsValid xs = false := by
  rw [partsValid, hP, partsOk_step h, inB_no h1]; simp
theorem partsValid_end {xs : List Int} {k : Nat} (hk : ¬ k < xs.length) (hP : partsOk xs = partsOk (xs.drop k)) : partsValid xs = decide ((xs.length : Int) ≤ 20) := by
  rw [partsValid, hP, List.drop_eq_nil_of_le (by omega)]; simp [partsOk]; omega

set_option maxHeartbeats 400000 in
theorem l6In_any (n lo hi : Int) (w : World) :
    Calls Try.prog 16 #[.int .i64 n, .int .i64 lo, .int .i64 hi] w fun e w' => e = .returned (.bool (inB n lo hi)) ∧ w = w' := by
  by_cases h1 : lo ≤ n
  · by_cases h2 : n ≤ hi
    · go_enter Try.func16, Try.ntmps16
      go_wp2
      go_ret
      exact ⟨ret_bool (inB_yes h1 h2).symm, rfl⟩
    · go_enter Try.func16, Try.ntmps16
      go_wp2
      go_ret
      exact ⟨ret_bool (inB_no (by omega)).symm, rfl⟩
  · go_enter Try.func16, Try.ntmps16
    go_wp2
    go_ret
    exact ⟨ret_bool (inB_no (by omega)).symm, rfl⟩

set_option maxHeartbeats 400000 in
theorem implPartsValid_any (A : Option Addr) (c : Nat) (xs : List Int) (w : World) (hx : Seq IntV w A xs) (hl : xs.length ≤ maxLen) :
    Calls Try.prog 10 #[.slice A xs.length c] w fun e w' => e = .returned (.bool (partsValid xs)) ∧ w = w' := by
  unfold maxLen at hl
  go_enter Try.func10, Try.ntmps10
  go_wp2
  go_loop [7] (fun i => ∃ k : Nat, k ≤ xs.length ∧ i = .int .i64 k ∧ Hid (partsOk xs = partsOk (xs.drop k))) (fun i => xs.length - (intOf i).toNat)
  case atStart => exact ⟨0, Nat.zero_le _, rfl, Lib.hid (by simp)⟩
  case round =>
    obtain ⟨k, hk, rfl, HP⟩ := hrel
    by_cases hlt : k < xs.length
    · obtain ⟨b, o, x, rfl, hb, hxk, hc⟩ := hx.at_ hlt
      have HX := Lib.hid hxk
      clear hxk
      by_cases h1 : x < 0
      · go_wp2
        go_ret
        exact ⟨ret_bool (partsValid_bad HX.out HP.out (.inl h1)).symm, rfl⟩
      by_cases h2 : 100000 < x
      · go_wp2
        go_ret
        exact ⟨ret_bool (partsValid_bad HX.out HP.out (.inr h2)).symm, rfl⟩
      · go_wp2
        go_round
        case rel => exact ⟨k + 1, by omega, by go_num, Lib.hid (partsOk_next HX.out HP.out (by omega) (by omega))⟩
        case measure => simp [intOf]; omega
    · go_wp2
      go_ret
      exact ⟨ret_bool (partsValid_end hlt HP.out).symm, rfl⟩

set_option maxHeartbeats 400000 in
theorem specPartsValid_any (A : Option Addr) (c : Nat) (xs : List Int) (w : World) (hx : Seq IntV w A xs) (hl : xs.length ≤ maxLen) :
    Calls Try.prog 8 #[.slice A xs.length c] w fun e w' => e = .returned (.bool (partsValid xs)) ∧ w = w' := by
  unfold maxLen at hl
  go_enter Try.func8, Try.ntmps8
  go_wp2
  go_loop [3] (fun i => ∃ k : Nat, k ≤ xs.length ∧ i = .int .i64 k ∧ Hid (partsOk xs = partsOk (xs.drop k))) (fun i => xs.length - (intOf i).toNat)
  case atStart => exact ⟨0, Nat.zero_le _, rfl, Lib.hid (by simp)⟩
  case round =>
    obtain ⟨k, hk, rfl, HP⟩ := hrel
    by_cases hlt : k < xs.length
    · obtain ⟨b, o, x, rfl, hb, hxk, hc⟩ := hx.at_ hlt
      have HX := Lib.hid hxk
      clear hxk
      by_cases h1 : 0 ≤ x ∧ x ≤ 100000
      · have hi := inB_yes h1.1 h1.2
        go_wp2_with (go_at_call 16; refine (l6In_any _ _ _ _).mono ?_; rintro e w' ⟨rfl, rfl⟩)
        go_round
        case rel => exact ⟨k + 1, by omega, by go_num, Lib.hid (partsOk_next HX.out HP.out (by omega) (by omega))⟩
        case measure => simp [intOf]; omega
      · have hi := inB_no (n := x) (lo := 0) (hi := 100000) (by omega)
        go_wp2_with (go_at_call 16; refine (l6In_any _ _ _ _).mono ?_; rintro e w' ⟨rfl, rfl⟩)
        go_ret
        exact ⟨ret_bool (partsValid_bad HX.out HP.out (by omega)).symm, rfl⟩
    · go_wp2
      go_ret
      exact ⟨ret_bool (partsValid_end hlt HP.out).symm, rfl⟩

/-- two lists are equal, told as the loops tell it -/
def eqTail : List Int → List Int → Bool
  | [], _ => true
  | x :: r, y :: s => decide (x = y) && eqTail r s
  | _ :: _, [] => true
theorem eqTail_same (xs : List Int) : eqTail xs xs = true := by
  induction xs with
  | nil => rfl
  | cons x r ih => simp [eqTail, ih]
theorem eqTail_iff : ∀ (xs ys : List Int), xs.length = ys.length → (eqTail xs ys = true ↔ xs = ys)
  | [], [], _ => by simp [eqTail]
  | x :: r, y :: s, h => by simp [eqTail, eqTail_iff r s (by simpa using h)]
  | [], y :: s, h => by simp at h
  | x :: r, [], h => by simp at h

/-- what eqIntS and sameInts answer -/
def eqInts (xs ys : List Int) : Bool := decide (xs = ys)
theorem eqInts_same (xs : List Int) : eqInts xs xs = true := by simp [eqInts]
theorem eqInts_step {xs ys : List Int} {k : Nat} {x y : Int} (hx : xs[k]? = some x) (hy : ys[k]? = some y) (hP : xs.take k = ys.take k) (h : x = y) : xs.take (k + 1) = ys.take (k + 1) := by
  rw [take_snoc' hx, take_snoc' hy, hP, h]
theorem eqInts_bad {xs ys : List Int} {k : Nat} {x y : Int} (hx : xs[k]? = some x) (hy : ys[k]? = some y) (h : x ≠ y) : eqInts xs ys = false := by
  simp only [eqInts, decide_eq_false_iff_not]
  rintro rfl
  rw [hx] at hy
  injection hy with hy
  exact h hy
theorem eqInts_end {xs ys : List Int} {k : Nat} (hl : xs.length = ys.length) (hk : ¬ k < xs.length) (hP : xs.take k = ys.take k) : eqInts xs ys = true := by
  rw [List.take_of_length_le (by omega), List.take_of_length_le (by omega)] at hP
  simp [eqInts, hP]
theorem eqInts_len {xs ys : List Int} (hl : xs.length ≠ ys.length) : eqInts xs ys = false := by
  simp only [eqInts, decide_eq_false_iff_not]
  rintro rfl
  exact hl rfl

set_option maxHeartbeats 400000 in
theorem eqIntS_any (A B : Option Addr) (c d : Nat) (xs ys : List Int) (w : World) (hx : Seq IntV w A xs) (hy : Seq IntV w B ys) (hl : xs.length ≤ maxLen) :
    Calls Try.prog 11 #[.slice A xs.length c, .slice B ys.length d] w fun e w' => e = .returned (.bool (eqInts xs ys)) ∧ Qu w w' := by
  unfold maxLen at hl
  by_cases hn : xs.length = ys.length
  · have hne : ((xs.length : Int) != (ys.length : Int)) = false := by simp [hn]
    have HN := Lib.hid hn
    clear hn
    go_enter Try.func11, Try.ntmps11
    go_wp2
    go_loopw [5] (fun i wr => ∃ k q : Nat, k ≤ xs.length ∧ i = .int .i64 k ∧ Hid (xs.take k = ys.take k) ∧ wr = w.drewN q) (fun i _ => xs.length - (intOf i).toNat)
    case atStart => exact ⟨0, 0, Nat.zero_le _, rfl, Lib.hid rfl, rfl⟩
    case round =>
      obtain ⟨k, q, hk, rfl, HP, rfl⟩ := hrel
      by_cases hlt : k < xs.length
      · obtain ⟨b, o, x, rfl, hb, hxk, hc⟩ := hx.at_ hlt
        have hlt' : k < ys.length := by have := HN.out; omega
        obtain ⟨b', o', y, rfl, hb', hyk, hc'⟩ := hy.at_ hlt'
        have HX := Lib.hid hxk
        have HY := Lib.hid hyk
        clear hxk hyk
        by_cases h1 : x = y
        · have h2 : (x != y) = false := by simp [h1]
          have H1 := Lib.hid h1
          clear h1
          go_wp2
          go_quiet (fail)
          go_wp2
          go_roundw
          case rel => exact ⟨k + 1, _, by omega, by go_num, Lib.hid (eqInts_step HX.out HY.out HP.out H1.out), rfl⟩
          case measure => simp [intOf]; omega
        · have h2 : (x != y) = true := by simp [h1]
          go_wp2
          go_quiet (fail)
          go_wp2
          go_ret
          exact ⟨ret_bool (eqInts_bad HX.out HY.out h1).symm, (Qu.of _ _).drewN _⟩
      · go_wp2
        go_ret
        exact ⟨ret_bool (eqInts_end HN.out hlt HP.out).symm, Qu.of _ _⟩
  · have hne : ((xs.length : Int) != (ys.length : Int)) = true := by simp; omega
    go_enter Try.func11, Try.ntmps11
    go_wp2
    go_ret
    exact ⟨ret_bool (eqInts_len hn).symm, Qu.refl _⟩

theorem infoInt : (Try.prog.info? 3).map (fun i => (i.zero, i.size, i.bytes)) = some (some (.int .i64 0), 1, 8) := by kernel_rfl

set_option maxHeartbeats 400000 in
theorem toIntS_any (A : Option Addr) (c : Nat) (xs : List Int) (w : World) (hx : Seq IntV w A xs) (hl : xs.length ≤ 1048576) :
    Calls Try.prog 9 #[.slice A xs.length c] w (Made IntV 3 w xs) := by
  have hmk := run_make_row' (P := Try.prog) 22 3 (.int .i64 0) 8 Try.underlying22 infoInt rfl .i64 .i64 xs.length (by omega) (by omega)
  have hown := own_made w (.int .i64 0) xs.length 3 (by unfold maxLen; omega)
  have hbel : Below w.heap.size w (w.alloc (.cells (madeCells #[.int .i64 0] xs.length) 3)) := (Below.refl _ _).alloc (Nat.le_refl _) _
  go_enter Try.func9, Try.ntmps9
  go_wp2
  go_loopw [4] (fun i wr => ∃ k : Nat, k ≤ xs.length ∧ i = .int .i64 k ∧ wr.ownsRow w.heap.size 3 1 (.slice (some ⟨w.heap.size, 0, none⟩) xs.length xs.length) xs.length ((xs.take k).map IntV ++ List.replicate (xs.length - k) (IntV 0)) ∧ Below w.heap.size w wr) (fun i _ => xs.length - (intOf i).toNat)
  case atStart => exact ⟨0, Nat.zero_le _, rfl, hown, hbel⟩
  case round =>
    obtain ⟨k, hk, rfl, ho, hb⟩ := hrel
    by_cases hlt : k < xs.length
    · obtain ⟨b, o, x, rfl, hbb, hxk, hc⟩ := (hx.below hb).at_ hlt
      obtain ⟨y, hy⟩ : ∃ y, wr.cell? ⟨w.heap.size, k, none⟩ = some y := by
        rw [ho.cellAt k (by omega)]
        exact ⟨_, List.getElem?_eq_getElem (by simp; omega)⟩
      have hf := ho.frozenAt k
      have hst := ho.stored k (IntV x)
      rw [fill_step hxk] at hst
      have HS := Lib.hid hst.1
      have HB := Lib.hid (hb.setCell (p := ⟨w.heap.size, k, none⟩) (Nat.le_refl _) (IntV x))
      clear hst ho hxk hown hbel
      go_wp2
      go_roundw
      case rel => exact ⟨k + 1, by omega, by go_num, HS.out, HB.out⟩
      case measure => simp [intOf]; omega
    · rw [List.take_of_length_le (by omega), show xs.length - k = 0 by omega] at ho
      go_wp2
      go_ret
      exact ⟨_, _, rfl, by simpa using ho, hb⟩
end Go.Proofs.Ytapmpggohcmljaa
