/- sameShape of the program: lists of rows of equal lengths. -/
import Derived.Test.YtncnghmadeghlaaMadeT
import Derived.Test.YtncnghmadeghlaaRows
import Derived.Outline
import Derived.Deep.QuietTactic
import Derived.BigQuiet
namespace Go.Proofs.Ytncnghmadeghlaa
open Go.RowKit
set_option linter.unusedVariables false
/-- the same number of rows, and each as long as the other's -/
def sameSh (t s : List (List Int)) : Bool := decide (t.map List.length = s.map List.length)
set_option maxHeartbeats 400000 in
theorem shape1_any (A B : Option Addr) (n c m d : Nat) (w : World) :
    Calls Try.prog 87 #[.slice A n c, .slice B m d] w fun e w' => e = .returned (.bool ((n : Int) == (m : Int))) ∧ w = w' := by
  obtain ⟨x, hx⟩ : ∃ x, ((n : Int) == (m : Int)) = x := ⟨_, rfl⟩
  have HX := Lib.hid hx
  clear hx
  go_enter Try.func87, Try.ntmps87
  go_wp2_with fail
  go_ret
  exact ⟨by simp, rfl⟩
set_option maxHeartbeats 800000 in
theorem equalFunc_any (A B : Option Addr) (c d : Nat) (t s : List (List Int)) (w : World) (hx : Tab IntV w A t) (hy : Tab IntV w B s) (hl : t.length ≤ maxLen) :
    Calls Try.prog 86 #[.slice A t.length c, .slice B s.length d, .func (.func 87) #[] #[]] w fun e w' => e = .returned (.bool (sameSh t s)) ∧ w = w' := by
  unfold maxLen at hl
  by_cases hn : t.length = s.length
  · have hne : ((t.length : Int) != (s.length : Int)) = false := by simp [hn]
    have HN := Lib.hid hn
    clear hn
    go_enter Try.func86, Try.ntmps86
    go_wp2_with fail
    go_loop [17] (fun i => ∃ k : Nat, k ≤ t.length ∧ i = .int .i64 k ∧ Hid ((t.map List.length).take k = (s.map List.length).take k)) (fun i => t.length - (intOf i).toNat)
    case atStart => exact ⟨0, Nat.zero_le _, rfl, Lib.hid rfl⟩
    case round =>
      obtain ⟨k, hk, rfl, HP⟩ := hrel
      by_cases hlt : k < t.length
      · obtain ⟨b, o, x, Ax, cx, rfl, hb, hxk, hc, -⟩ := hx.at_ hlt
        have hlt' : k < s.length := by have := HN.out; omega
        obtain ⟨b', o', y, Ay, cy, rfl, hb', hyk, hc', -⟩ := hy.at_ hlt'
        have HX := Lib.hid hxk
        have HY := Lib.hid hyk
        have i1 : (k : Int) < (s.length : Int) := by omega
        clear hxk hyk
        by_cases h1 : x.length = y.length
        · have h2 : ((x.length : Int) == (y.length : Int)) = true := by simp [h1]
          have hcl := shape1_any Ax Ay x.length cx y.length cy w
          rw [h2] at hcl
          have HC := Lib.hid hcl
          have hs : (t.map List.length).take (k + 1) = (s.map List.length).take (k + 1) := by
            rw [take_snoc' (x := x.length) (by simp [HX.out]), take_snoc' (x := y.length) (by simp [HY.out]), HP.out, h1]
          have HS := Lib.hid hs
          clear h1 h2 hcl hs
          go_wp2_with fail
          refine HC.out.mono ?_
          rintro e w' ⟨rfl, rfl⟩
          go_wp2_with fail
          go_round
          case rel => exact ⟨k + 1, by omega, by go_num, HS⟩
          case measure => simp [intOf]; omega
        · have h2 : ((x.length : Int) == (y.length : Int)) = false := beq_eq_false_iff_ne.2 (by omega)
          have hcl := shape1_any Ax Ay x.length cx y.length cy w
          rw [h2] at hcl
          have HC := Lib.hid hcl
          have hs : sameSh t s = false := by
            refine decide_eq_false fun e => h1 ?_
            have := congrArg (fun l => l[k]?) e
            simp [HX.out, HY.out] at this
            exact this
          have HS := Lib.hid hs
          clear h1 h2 hcl hs
          go_wp2_with fail
          refine HC.out.mono ?_
          rintro e w' ⟨rfl, rfl⟩
          go_wp2_with fail
          go_ret
          exact ⟨ret_bool HS.out.symm, rfl⟩
      · go_wp2_with fail
        go_ret
        refine ⟨ret_bool ?_, rfl⟩
        have h1 := HP.out
        have h2 := HN.out
        rw [List.take_of_length_le (by simp; omega), List.take_of_length_le (by simp; omega)] at h1
        simp [sameSh, h1]
  · have hne : ((t.length : Int) != (s.length : Int)) = true := by simp; omega
    have hs : sameSh t s = false := decide_eq_false fun e => hn (by have := congrArg List.length e; simpa using this)
    have HS := Lib.hid hs
    clear hs hn
    go_enter Try.func86, Try.ntmps86
    go_wp2_with fail
    go_ret
    exact ⟨ret_bool HS.out.symm, rfl⟩
set_option maxHeartbeats 400000 in
theorem sameShape_any (A B : Option Addr) (c d : Nat) (t s : List (List Int)) (w : World) (hx : Tab IntV w A t) (hy : Tab IntV w B s) (hl : t.length ≤ maxLen) :
    Calls Try.prog 73 #[.slice A t.length c, .slice B s.length d] w fun e w' => e = .returned (.bool (sameSh t s)) ∧ w = w' := by
  have HE := Lib.hid (equalFunc_any A B c d t s w hx hy hl)
  obtain ⟨x, hxe⟩ : ∃ x, sameSh t s = x := ⟨_, rfl⟩
  rw [hxe] at HE ⊢
  clear hxe hx hy hl
  go_enter Try.func73, Try.ntmps73
  go_wp2_with fail
  refine HE.out.mono ?_
  rintro e w' ⟨rfl, rfl⟩
  go_wp2_with fail
  go_ret
  exact ⟨rfl, rfl⟩
end Go.Proofs.Ytncnghmadeghlaa
