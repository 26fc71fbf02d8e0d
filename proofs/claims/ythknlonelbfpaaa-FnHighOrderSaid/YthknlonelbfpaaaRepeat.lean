/- bits.Mul64, bits.Mul at small numbers; slices.Repeat of one number. -/
import Derived.Test.YthknlonelbfpaaaInfo
import Derived.Test.YthknlonelbfpaaaBlank
import Derived.IntWalk
import Derived.Laws.CopyOwn
import Derived.Laws.BitsAllLaws
import Derived.Deep.RegionLaw
import Derived.BigRegion
namespace Go.Proofs.Ythknlonelbfpaaa
open Go.RowKit
set_option linter.unusedVariables false
theorem mul64_small (n : Nat) (w : World) (h1 : 1 ≤ n) (h8 : n ≤ 8) : Calls Try.prog 43 #[.int .u64 1, .int .u64 n] w fun e w' => e = .returned (.tuple #[.int .u64 0, .int .u64 n]) ∧ w = w' := by
  have hn : n = 1 ∨ n = 2 ∨ n = 3 ∨ n = 4 ∨ n = 5 ∨ n = 6 ∨ n = 7 ∨ n = 8 := by omega
  rcases hn with rfl | rfl | rfl | rfl | rfl | rfl | rfl | rfl
  all_goals
    go_enter Try.func43, Try.ntmps43
    go_wp2_with fail
    go_ret2
    exact ⟨rfl, rfl⟩
theorem mul_small (n : Nat) (w : World) (h1 : 1 ≤ n) (h8 : n ≤ 8) : Calls Try.prog 41 #[.int .u64 1, .int .u64 n] w fun e w' => e = .returned (.tuple #[.int .u64 0, .int .u64 n]) ∧ w = w' := by
  have HC := Lib.hid (mul64_small n w h1 h8)
  go_enter Try.func41, Try.ntmps41
  go_wp2_with fail
  refine HC.out.mono ?_
  rintro e w' ⟨rfl, rfl⟩
  go_wp2_with fail
  go_ret2
  exact ⟨rfl, rfl⟩
theorem made_mk' (z : Value) (n : Nat) : madeCells #[z] n = (mkL n fun _ => z).toArray := by
  apply Array.ext_getElem?
  intro i
  by_cases hi : i < n
  · simp [madeCells, mkL, hi, Nat.mod_one]
  · simp [madeCells, mkL, hi]
/-- the first m numbers are laid -/
def repV (n m : Nat) (x : Int) : List Value := mkL n fun i => .int .i64 (if i < m then x else 0)
theorem repV_splice {n m k : Nat} {x : Int} (hmk : m + k ≤ n) : splice (repV n m x) m (List.replicate k (.int .i64 x)) = repV n (m + k) x := by
  apply List.ext_getElem?
  intro i
  simp only [splice, repV]
  by_cases h1 : i < m
  · rw [List.getElem?_append_left (by simp [mkL_len]; omega), List.getElem?_take_of_lt h1, mkL_get _ (by omega), mkL_get _ (by omega)]
    simp [h1, show i < m + k by omega]
  · rw [List.getElem?_append_right (by simp [mkL_len]; omega)]
    have e : (List.take m (mkL n fun i => Value.int .i64 (if i < m then x else 0))).length = m := by simp [mkL_len]; omega
    rw [e]
    by_cases h2 : i < m + k
    · rw [List.getElem?_append_left (by simp; omega), List.getElem?_replicate, if_pos (by omega), mkL_get _ (by omega)]
      simp [h2]
    · rw [List.getElem?_append_right (by simp; omega), List.getElem?_drop, List.length_replicate, show m + k + (i - m - k) = i by omega]
      by_cases h3 : i < n
      · rw [mkL_get _ h3, mkL_get _ h3]
        simp [h1, h2]
      · rw [List.getElem?_eq_none (by rw [mkL_len]; omega), List.getElem?_eq_none (by rw [mkL_len]; omega)]
theorem sizeI : (Try.prog.info? 3).map (·.size) = some 1 := by kernel_rfl
set_option maxHeartbeats 1000000 in
theorem repeat_any (n b o c : Nat) (x : Int) (w : World) (hc : w.cell? ⟨b, o, none⟩ = some (.int .i64 x)) (hb : b < w.heap.size) (h1 : 1 ≤ n) (h8 : n ≤ 8) :
    Calls Try.prog 39 #[.slice (some ⟨b, o, none⟩) 1 c, .int .i64 n] w (Made IntV 3 w (mkL n fun _ => x)) := by
  have hmk2 := run_make_row' (P := Try.prog) 28 3 (.int .i64 0) 8 Try.underlying28 nfoI rfl .i64 .i64 n (by omega) (by omega)
  have hmx : Try.prog.follows .mixedOrders = true := by kernel_rfl
  have HC := Lib.hid (mul_small n w h1 h8)
  have HCX := Lib.hid hc
  clear hc
  have HG1 : Hid ((w.alloc (.cells (madeCells #[.int .i64 0] n) 3)).heap[w.heap.size]? = some (.cells (repV n 0 x).toArray 3 (0, 0))) := Lib.hid (by
    rw [made_mk']
    have := Blk.new w 3 (mkL n fun _ => Value.int .i64 0).toArray
    simpa [repV, Blk] using this)
  have HB1 : Hid (Below w.heap.size w (w.alloc (.cells (madeCells #[.int .i64 0] n) 3))) := Lib.hid ((Below.refl _ _).alloc (Nat.le_refl _) _)
  have hcc : (w.alloc (.cells (madeCells #[.int .i64 0] n) 3)).cell? ⟨b, o, none⟩ = some (.int .i64 x) := (HB1.out.cell (p := ⟨b, o, none⟩) hb).trans HCX.out
  have HCC := Lib.hid hcc
  have hmin : (List.replicate 1 (Value.int .i64 x)).length = Nat.min 1 n := by
    rw [List.length_replicate]
    exact (Nat.min_eq_left h1).symm
  have HMIN := Lib.hid hmin
  have HSRC : Hid (∀ j v, (List.replicate 1 (Value.int .i64 x))[j]? = some v → (w.alloc (.cells (madeCells #[.int .i64 0] n) 3)).cell? ((⟨b, o, none⟩ : Addr).add j) = some v) := Lib.hid fun j v hj => by
    rw [List.getElem?_replicate] at hj
    split at hj
    · obtain rfl : j = 0 := by omega
      injection hj with hj
      rw [← hj]
      simpa [Addr.add] using HCC.out
    · cases hj
  have HFIT : Hid (0 + (List.replicate 1 (Value.int .i64 x)).length ≤ (repV n 0 x).length) := Lib.hid (by rw [List.length_replicate, repV, mkL_len]; omega)
  have HONE : Hid (∀ v ∈ List.replicate 1 (Value.int .i64 x), v.oneCell' = true) := Lib.hid fun v hv => by rw [List.eq_of_mem_replicate hv]; rfl
  clear hcc hmin
  go_enter Try.func39, Try.ntmps39
  go_wp2_with fail
  refine HC.out.mono ?_
  rintro e w' ⟨rfl, rfl⟩
  go_wp2_with (refine wpList_copy_splice rfl (.tmp 31) (.tmp 32) _ _ rfl 3 Try.underlying28 sizeI _ _ _ _ _ _ rfl rfl w.heap.size 0 (repV n 0 x) 3 HG1.out (List.replicate 1 (.int .i64 x)) HMIN.out (fun _ => ⟨rfl, _, rfl, HSRC.out⟩) HFIT.out HONE.out w.heap.size w HB1.out (Nat.le_refl _) ?_)
  intro w2 HG2 hB2
  have HG3 : Hid (w2.heap[w.heap.size]? = some (.cells (repV n 1 x).toArray 3 (0, 0))) := Lib.hid (by
    have := HG2.out
    have e := repV_splice (n := n) (m := 0) (k := 1) (x := x) (by omega)
    simp only [List.replicate_one] at e
    first | rwa [e] at this | (simp only [List.replicate_one] at this; rwa [e] at this))
  have HB2 := Lib.hid hB2
  clear HG2 hB2 HG1 HB1 HMIN HCC HSRC HFIT HONE
  go_wp2_with fail
  go_loopw [8] (fun v wr => ∃ m : Nat, 1 ≤ m ∧ m ≤ n ∧ v = .int .i64 m ∧ Hid (wr.heap[w.heap.size]? = some (.cells (repV n m x).toArray 3 (0, 0))) ∧ Hid (Below w.heap.size w wr)) (fun v _ => n - (intOf v).toNat)
  case atStart => exact ⟨1, Nat.le_refl _, h1, rfl, HG3, HB2⟩
  case round =>
    clear HG3 HB2
    obtain ⟨m, hm1, hmn, rfl, HG, HB⟩ := hrel
    obtain ⟨W, rfl⟩ : ∃ W : World, W = wr := ⟨_, rfl⟩
    by_cases hlt : m < n
    · have g1 : (m : Int) ≤ (n : Int) := by omega
      have g2 : (0 : Int) ≤ (m : Int) := by omega
      have g3 : ¬ n = m := by omega
      have HGd : Hid (W.drew.heap[w.heap.size]? = some (.cells (repV n m x).toArray 3 (0, 0))) := HG
      have HBd : Hid (Below w.heap.size w W.drew) := Lib.hid HB.out.drew
      obtain ⟨k, hk, hk1, hkn⟩ : ∃ k, k = Nat.min m (n - m) ∧ 1 ≤ k ∧ m + k ≤ n := ⟨_, rfl, by have : Nat.min m (n - m) = min m (n - m) := rfl; omega, by have : Nat.min m (n - m) = min m (n - m) := rfl; omega⟩
      have HMIN : Hid ((List.replicate k (Value.int .i64 x)).length = Nat.min m (n - m)) := Lib.hid (by rw [List.length_replicate, hk])
      have hkm : k ≤ m := by rw [hk]; exact Nat.min_le_left _ _
      have HSRC : Hid (∀ j v, (List.replicate k (Value.int .i64 x))[j]? = some v → W.drew.cell? ((⟨w.heap.size, 0, none⟩ : Addr).add j) = some v) := Lib.hid fun j v hj => by
        rw [List.getElem?_replicate] at hj
        split at hj
        · have e : (⟨w.heap.size, 0, none⟩ : Addr).add j = ⟨w.heap.size, j, none⟩ := by
            unfold Addr.add
            split
            · next h0 => subst h0; rfl
            · simp
          rw [e, (show Blk W.drew w.heap.size 3 (repV n m x).toArray from HGd.out).cell j, ← hj]
          simp only [List.getElem?_toArray, repV]
          rw [mkL_get _ (by omega), if_pos (by omega)]
        · cases hj
      have HFIT : Hid (m + (List.replicate k (Value.int .i64 x)).length ≤ (repV n m x).length) := Lib.hid (by rw [List.length_replicate, repV, mkL_len]; omega)
      have HONE : Hid (∀ v ∈ List.replicate k (Value.int .i64 x), v.oneCell' = true) := Lib.hid fun v hv => by rw [List.eq_of_mem_replicate hv]; rfl
      clear hk
      have hrun := run_copy_row (P := Try.prog) W.drew 28 28 3 3 w.heap.size m (n - m) (n - m) ⟨w.heap.size, 0, none⟩ m n (repV n m x).toArray 3 (List.replicate k (.int .i64 x)) Try.underlying28 sizeI HGd.out HMIN.out HSRC.out (by simpa using HFIT.out) HONE.out
      rw [List.length_replicate] at hrun
      obtain ⟨W2, hW2⟩ : ∃ W2 : World, W2 = W.drew.setRow w.heap.size ((repV n m x).toArray.toList.take m ++ List.replicate k (Value.int .i64 x) ++ (repV n m x).toArray.toList.drop (m + k)).toArray := ⟨_, rfl⟩
      rw [← hW2] at hrun
      have HG5 : Hid (W2.heap[w.heap.size]? = some (.cells (repV n (m + k) x).toArray 3 (0, 0))) := Lib.hid (by
        rw [hW2, ← repV_splice hkn]
        simpa [splice] using setRow_heap W.drew w.heap.size _ _ 3 _ HGd.out)
      have HB5 : Hid (Below w.heap.size w W2) := Lib.hid (by rw [hW2]; exact below_setRow HBd.out (Nat.le_refl _) _)
      clear hW2 HGd HBd HMIN HSRC HFIT HONE
      go_wp2_with fail
      go_region
      go_wp2_with fail
      go_roundw
      case rel => exact ⟨m + k, by omega, hkn, by go_num, HG5, HB5⟩
      case measure => simp [intOf]; omega
    · obtain rfl : m = n := by omega
      go_wp2_with fail
      go_ret
      have hb := (show Blk W w.heap.size 3 (repV m m x).toArray from HG.out).own (base := w.heap.size) (n := m) (Nat.le_refl _) (by simp [repV, mkL_len]) (by unfold maxLen; omega)
      have e : repV m m x = (mkL m fun _ => x).map IntV := by
        rw [mkL_map]
        exact mkL_ext fun i hi => by rw [if_pos hi]
      rw [e] at hb
      exact ⟨some ⟨w.heap.size, 0, none⟩, m, by rw [mkL_len]; rfl, by rw [mkL_len]; exact hb, HB.out⟩
end Go.Proofs.Ythknlonelbfpaaa
