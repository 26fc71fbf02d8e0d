/- Contracts of toBoolS and eqBoolS. No condition beyond how the arguments lie in memory. -/
import Derived.Test.YtncnghmadeghlaaEqBools
import Derived.Test.YtncnghmadeghlaaRows
import Derived.Outline
import Derived.Deep.QuietTactic
import Derived.BigQuiet
namespace Go.Proofs.Ytncnghmadeghlaa
open Go.RowKit

set_option maxHeartbeats 400000 in
theorem eqBoolS_any (A B : Option Addr) (c d : Nat) (xs ys : List Bool) (w : World) (hx : Seq BoolV w A xs) (hy : Seq BoolV w B ys) (hl : xs.length ≤ maxLen) :
    Calls Try.prog 76 #[.slice A xs.length c, .slice B ys.length d] w fun e w' => e = .returned (.bool (eqBools xs ys)) ∧ Qu w w' := by
  unfold maxLen at hl
  by_cases hn : xs.length = ys.length
  · have hne : ((xs.length : Int) != (ys.length : Int)) = false := by simp [hn]
    have HN := Lib.hid hn
    clear hn
    go_enter Try.func76, Try.ntmps76
    go_wp2
    go_loopw [5] (fun i wr => ∃ k q : Nat, k ≤ xs.length ∧ i = .int .i64 k ∧ Hid (xs.take k = ys.take k) ∧ wr = w.drewN q) (fun i _ => xs.length - (intOf i).toNat)
    case atStart => exact ⟨0, 0, Nat.zero_le _, rfl, Lib.hid rfl, rfl⟩
    case round =>
      obtain ⟨k, q, hk, rfl, HP, rfl⟩ := hrel
      by_cases hlt : k < xs.length
      · obtain ⟨b, o, x, rfl, hb, hxk, hc⟩ := hx.at_ hlt
        have hlt' : k < ys.length := by have := HN.out; omega
        obtain ⟨b', o', y, rfl, hb', hyk, hc'⟩ := hy.at_ hlt'
        have HX := Lib.hid hxk
        have HY := Lib.hid hyk
        clear hxk hyk
        by_cases h1 : x = y
        · subst h1
          cases x
          all_goals
            go_wp2
            go_quiet (fail)
            go_wp2
            go_roundw
            case rel => exact ⟨k + 1, _, by omega, by go_num, Lib.hid (eqBools_step HX.out HY.out HP.out rfl), rfl⟩
            case measure => simp [intOf]; omega
        · have h3 : (x = true ∧ y = false) ∨ (x = false ∧ y = true) := by revert h1; cases x <;> cases y <;> simp
          clear h1
          rcases h3 with ⟨rfl, rfl⟩ | ⟨rfl, rfl⟩
          all_goals
            go_wp2
            go_quiet (fail)
            go_wp2
            go_ret
            exact ⟨ret_bool (eqBools_bad HX.out HY.out (by simp)).symm, (Qu.of _ _).drewN _⟩
      · go_wp2
        go_ret
        exact ⟨ret_bool (eqBools_end HN.out hlt HP.out).symm, Qu.of _ _⟩
  · have hne : ((xs.length : Int) != (ys.length : Int)) = true := by simp; omega
    go_enter Try.func76, Try.ntmps76
    go_wp2
    go_ret
    exact ⟨ret_bool (eqBools_len hn).symm, Qu.refl _⟩

theorem infoBool : (Try.prog.info? 4).map (fun i => (i.zero, i.size, i.bytes)) = some (some (.bool false), 1, 1) := by kernel_rfl

set_option maxHeartbeats 400000 in
theorem toBoolS_any (A : Option Addr) (c : Nat) (xs : List Bool) (w : World) (hx : Seq BoolV w A xs) (hl : xs.length ≤ 1048576) :
    Calls Try.prog 71 #[.slice A xs.length c] w (Made BoolV 4 w xs) := by
  have hmk := run_make_row' (P := Try.prog) 60 4 (.bool false) 1 Try.underlying60 infoBool rfl .i64 .i64 xs.length (by omega) (by omega)
  have hown := own_made w (.bool false) xs.length 4 (by unfold maxLen; omega)
  have hbel : Below w.heap.size w (w.alloc (.cells (madeCells #[.bool false] xs.length) 4)) := (Below.refl _ _).alloc (Nat.le_refl _) _
  go_enter Try.func71, Try.ntmps71
  go_wp2
  go_loopw [4] (fun i wr => ∃ k : Nat, k ≤ xs.length ∧ i = .int .i64 k ∧ wr.ownsRow w.heap.size 4 1 (.slice (some ⟨w.heap.size, 0, none⟩) xs.length xs.length) xs.length ((xs.take k).map BoolV ++ List.replicate (xs.length - k) (BoolV false)) ∧ Below w.heap.size w wr) (fun i _ => xs.length - (intOf i).toNat)
  case atStart => exact ⟨0, Nat.zero_le _, rfl, hown, hbel⟩
  case round =>
    obtain ⟨k, hk, rfl, ho, hb⟩ := hrel
    by_cases hlt : k < xs.length
    · obtain ⟨b, o, x, rfl, hbb, hxk, hc⟩ := (hx.below hb).at_ hlt
      obtain ⟨y, hy⟩ : ∃ y, wr.cell? ⟨w.heap.size, k, none⟩ = some y := by
        rw [ho.cellAt k (by omega)]
        exact ⟨_, List.getElem?_eq_getElem (by simp; omega)⟩
      have hf := ho.frozenAt k
      have hst := ho.stored k (BoolV x)
      rw [fill_step hxk] at hst
      have HS := Lib.hid hst.1
      have HB := Lib.hid (hb.setCell (p := ⟨w.heap.size, k, none⟩) (Nat.le_refl _) (BoolV x))
      clear hst ho hxk hown hbel
      go_wp2
      go_roundw
      case rel => exact ⟨k + 1, by omega, by go_num, HS.out, HB.out⟩
      case measure => simp [intOf]; omega
    · rw [List.take_of_length_le (by omega), show xs.length - k = 0 by omega] at ho
      go_wp2
      go_ret
      exact ⟨_, _, rfl, by simpa using ho, hb⟩
end Go.Proofs.Ytncnghmadeghlaa
