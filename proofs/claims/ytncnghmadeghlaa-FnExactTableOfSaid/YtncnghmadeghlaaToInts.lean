/- Contracts of toIntS and eqIntS. No condition beyond how the arguments lie in memory. -/
import Derived.Test.YtncnghmadeghlaaEqInts
import Derived.Test.YtncnghmadeghlaaRows
import Derived.Outline
import Derived.Deep.QuietTactic
import Derived.BigQuiet
namespace Go.Proofs.Ytncnghmadeghlaa
open Go.RowKit

set_option maxHeartbeats 400000 in
theorem eqIntS_any (A B : Option Addr) (c d : Nat) (xs ys : List Int) (w : World) (hx : Seq IntV w A xs) (hy : Seq IntV w B ys) (hl : xs.length ≤ maxLen) :
    Calls Try.prog 49 #[.slice A xs.length c, .slice B ys.length d] w fun e w' => e = .returned (.bool (eqInts xs ys)) ∧ Qu w w' := by
  unfold maxLen at hl
  by_cases hn : xs.length = ys.length
  · have hne : ((xs.length : Int) != (ys.length : Int)) = false := by simp [hn]
    have HN := Lib.hid hn
    clear hn
    go_enter Try.func49, Try.ntmps49
    go_wp2
    go_loopw [5] (fun i wr => ∃ k q : Nat, k ≤ xs.length ∧ i = .int .i64 k ∧ Hid (xs.take k = ys.take k) ∧ wr = w.drewN q) (fun i _ => xs.length - (intOf i).toNat)
    case atStart => exact ⟨0, 0, Nat.zero_le _, rfl, Lib.hid rfl, rfl⟩
    case round =>
      obtain ⟨k, q, hk, rfl, HP, rfl⟩ := hrel
      by_cases hlt : k < xs.length
      · obtain ⟨b, o, x, rfl, hb, hxk, hc⟩ := hx.at_ hlt
        have hlt' : k < ys.length := by have := HN.out; omega
        obtain ⟨b', o', y, rfl, hb', hyk, hc'⟩ := hy.at_ hlt'
        have HX := Lib.hid hxk
        have HY := Lib.hid hyk
        clear hxk hyk
        by_cases h1 : x = y
        · have h2 : (x != y) = false := by simp [h1]
          have H1 := Lib.hid h1
          clear h1
          go_wp2
          go_quiet (fail)
          go_wp2
          go_roundw
          case rel => exact ⟨k + 1, _, by omega, by go_num, Lib.hid (eqInts_step HX.out HY.out HP.out H1.out), rfl⟩
          case measure => simp [intOf]; omega
        · have h2 : (x != y) = true := by simp [h1]
          go_wp2
          go_quiet (fail)
          go_wp2
          go_ret
          exact ⟨ret_bool (eqInts_bad HX.out HY.out h1).symm, (Qu.of _ _).drewN _⟩
      · go_wp2
        go_ret
        exact ⟨ret_bool (eqInts_end HN.out hlt HP.out).symm, Qu.of _ _⟩
  · have hne : ((xs.length : Int) != (ys.length : Int)) = true := by simp; omega
    go_enter Try.func49, Try.ntmps49
    go_wp2
    go_ret
    exact ⟨ret_bool (eqInts_len hn).symm, Qu.refl _⟩

theorem infoInt : (Try.prog.info? 3).map (fun i => (i.zero, i.size, i.bytes)) = some (some (.int .i64 0), 1, 8) := by kernel_rfl

set_option maxHeartbeats 400000 in
theorem toIntS_any (A : Option Addr) (c : Nat) (xs : List Int) (w : World) (hx : Seq IntV w A xs) (hl : xs.length ≤ 1048576) :
    Calls Try.prog 57 #[.slice A xs.length c] w (Made IntV 3 w xs) := by
  have hmk := run_make_row' (P := Try.prog) 42 3 (.int .i64 0) 8 Try.underlying42 infoInt rfl .i64 .i64 xs.length (by omega) (by omega)
  have hown := own_made w (.int .i64 0) xs.length 3 (by unfold maxLen; omega)
  have hbel : Below w.heap.size w (w.alloc (.cells (madeCells #[.int .i64 0] xs.length) 3)) := (Below.refl _ _).alloc (Nat.le_refl _) _
  go_enter Try.func57, Try.ntmps57
  go_wp2
  go_loopw [4] (fun i wr => ∃ k : Nat, k ≤ xs.length ∧ i = .int .i64 k ∧ wr.ownsRow w.heap.size 3 1 (.slice (some ⟨w.heap.size, 0, none⟩) xs.length xs.length) xs.length ((xs.take k).map IntV ++ List.replicate (xs.length - k) (IntV 0)) ∧ Below w.heap.size w wr) (fun i _ => xs.length - (intOf i).toNat)
  case atStart => exact ⟨0, Nat.zero_le _, rfl, hown, hbel⟩
  case round =>
    obtain ⟨k, hk, rfl, ho, hb⟩ := hrel
    by_cases hlt : k < xs.length
    · obtain ⟨b, o, x, rfl, hbb, hxk, hc⟩ := (hx.below hb).at_ hlt
      obtain ⟨y, hy⟩ : ∃ y, wr.cell? ⟨w.heap.size, k, none⟩ = some y := by
        rw [ho.cellAt k (by omega)]
        exact ⟨_, List.getElem?_eq_getElem (by simp; omega)⟩
      have hf := ho.frozenAt k
      have hst := ho.stored k (IntV x)
      rw [fill_step hxk] at hst
      have HS := Lib.hid hst.1
      have HB := Lib.hid (hb.setCell (p := ⟨w.heap.size, k, none⟩) (Nat.le_refl _) (IntV x))
      clear hst ho hxk hown hbel
      go_wp2
      go_roundw
      case rel => exact ⟨k + 1, by omega, by go_num, HS.out, HB.out⟩
      case measure => simp [intOf]; omega
    · rw [List.take_of_length_le (by omega), show xs.length - k = 0 by omega] at ho
      go_wp2
      go_ret
      exact ⟨_, _, rfl, by simpa using ho, hb⟩
end Go.Proofs.Ytncnghmadeghlaa
