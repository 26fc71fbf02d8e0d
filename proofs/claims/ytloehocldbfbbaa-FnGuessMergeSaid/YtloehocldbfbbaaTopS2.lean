/- The contract of PartsTop of the reference. -/
import Derived.Test.YtloehocldbfbbaaTopS
import Derived.Test.YtloehocldbfbbaaPartsOk
namespace Go.Proofs.Ytloehocldbfbbaa
open Go.RowKit
set_option linter.unusedVariables false
theorem tot_snoc' {xs : List Int} {k : Nat} {x : Int} (h : xs[k]? = some x) : tot (xs.take (k + 1)) = tot (xs.take k) + x := by
  rw [take_snoc' h, tot_append]; simp [tot]
theorem tot_take_bound' {xs : List Int} (hr : ∀ x ∈ xs, 0 ≤ x ∧ x ≤ 100000) (hl : xs.length ≤ 100) (k : Nat) : 0 ≤ tot (xs.take k) ∧ tot (xs.take k) ≤ 10000000 := by
  have h1 := tot_nonneg (xs := xs.take k) fun x hx => (hr x (List.mem_of_mem_take hx)).1
  have h2 := tot_le (xs := xs.take k) (m := 100000) fun x hx => (hr x (List.mem_of_mem_take hx)).2
  have h3 : (xs.take k).length ≤ xs.length := by simp; omega
  omega

set_option maxHeartbeats 400000 in
theorem specPartsTop_g (A : Option Addr) (c : Nat) (xs : List Int) (n : Int) (w : World) (hx : Lst IntV w A c xs) (hl : xs.length ≤ 1048576) (hw : ∀ n ∈ xs, (Lit.int .i64 n).wf = true) (hn : (Lit.int .i64 n).wf = true) :
    Calls Try.prog 29 #[.slice A xs.length c, .int .i64 n] w (Gives (.int .i64 (partsTop xs n)) w) := by
  have hnb := bounds_i64 hn
  have hn1 := hnb.2
  clear hw hn hnb
  cases hv : partsValid xs
  · have HV := Lib.hid hv
    go_enter Try.func29, Try.ntmps29
    go_wp2_with fail
    refine (specPartsValid_any _ _ _ _ hx.1 (by unfold maxLen; omega)).mono ?_
    rintro e w' ⟨rfl, rfl⟩
    go_wp2_with fail
    go_ret
    exact ⟨ret_int (partsTop_no (by rw [HV.out]; simp)).symm, Below.refl _ _⟩
  · have HV := Lib.hid hv
    by_cases h0 : n < 0
    · go_enter Try.func29, Try.ntmps29
      go_wp2_with fail
      refine (specPartsValid_any _ _ _ _ hx.1 (by unfold maxLen; omega)).mono ?_
      rintro e w' ⟨rfl, rfl⟩
      go_wp2_with fail
      go_ret
      exact ⟨ret_int (partsTop_no (by omega)).symm, Below.refl _ _⟩
    · obtain ⟨m, rfl⟩ := Int.eq_ofNat_of_zero_le (a := n) (by omega)
      have h0' : decide ((m : Int) < 0) = false := by simp
      go_enter Try.func29, Try.ntmps29
      go_wp2_with fail
      refine (specPartsValid_any _ _ _ _ hx.1 (by unfold maxLen; omega)).mono ?_
      rintro e w' ⟨rfl, rfl⟩
      go_wp2_with fail
      refine (l12Sort_any A c xs _ hx.1 (valid_len HV.out)).mono ?_
      rintro e w2 ⟨A2, c2, ys, rfl, hys, hL, hb⟩
      have hyl : ys.length ≤ 20 := by rw [hys, srt_len]; exact valid_len HV.out
      have hyr : ∀ y ∈ ys, 0 ≤ y ∧ y ≤ 100000 := fun y hy => valid_mem HV.out y (srt_mem.1 (by rw [← hys]; exact hy))
      have HY := Lib.hid hys
      have HR := Lib.hid hyr
      clear hx hv hys hyr
      go_wp2_with fail
      go_loop [6, 7] (fun s i => ∃ k : Nat, k ≤ ys.length ∧ k ≤ m ∧ i = .int .i64 k ∧ s = .int .i64 (tot (ys.take k))) (fun _ i => ys.length - (intOf i).toNat)
      case atStart => exact ⟨0, Nat.zero_le _, Nat.zero_le _, rfl, rfl⟩
      case round =>
        obtain ⟨k, hk, hkm, rfl, rfl⟩ := hrel
        have m0 := (tot_take_bound' HR.out (by omega) k).1
        have m1 := (tot_take_bound' HR.out (by omega) k).2
        by_cases hlt : k < ys.length
        · have hlt' : decide ((k : Int) < (ys.length : Int)) = true := decide_eq_true (by omega)
          by_cases hlm : k < m
          · have hlm' : decide ((k : Int) < (m : Int)) = true := decide_eq_true (by omega)
            obtain ⟨b, o, x, rfl, hbb, hxk, hc⟩ := hL.1.at_ hlt
            have x0 := (HR.out x (List.mem_of_getElem? hxk)).1
            have x1 := (HR.out x (List.mem_of_getElem? hxk)).2
            have HX := Lib.hid hxk
            clear hxk
            go_wp2
            go_round
            case rel => exact ⟨k + 1, by omega, by omega, by go_num, by rw [tot_snoc' HX.out]⟩
            case measure => simp [intOf]; omega
          · have hlm' : decide ((k : Int) < (m : Int)) = false := decide_eq_false (by omega)
            have hlm'' : decide (k < m) = false := decide_eq_false (by omega)
            go_wp2
            go_ret
            obtain rfl : k = m := by omega
            exact ⟨ret_int (by rw [partsTop_nat HV.out, top, HY.out]), hb⟩
        · have hlt' : decide ((k : Int) < (ys.length : Int)) = false := decide_eq_false (by omega)
          have hlt'' : decide (k < ys.length) = false := decide_eq_false (by omega)
          go_wp2
          go_ret
          exact ⟨ret_int (by rw [partsTop_nat HV.out, top, ← HY.out, List.take_of_length_le (by omega), List.take_of_length_le (by omega)]), hb⟩
end Go.Proofs.Ytloehocldbfbbaa
