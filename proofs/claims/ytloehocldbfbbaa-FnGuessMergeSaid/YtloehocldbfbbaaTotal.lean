/- The contract of total of the program: the sum of a list of numbers from 0 to 100000. -/
import Derived.Test.YtloehocldbfbbaaTop
import Derived.Test.YtloehocldbfbbaaLst
import Derived.Test.YtloehocldbfbbaaRows
import Derived.Outline
namespace Go.Proofs.Ytloehocldbfbbaa
open Go.RowKit
set_option linter.unusedVariables false

theorem tot_snoc {xs : List Int} {k : Nat} {x : Int} (h : xs[k]? = some x) : tot (xs.take (k + 1)) = tot (xs.take k) + x := by
  rw [take_snoc' h, tot_append]; simp [tot]
theorem tot_take_bound {xs : List Int} (hr : ∀ x ∈ xs, 0 ≤ x ∧ x ≤ 100000) (hl : xs.length ≤ 100) (k : Nat) : 0 ≤ tot (xs.take k) ∧ tot (xs.take k) ≤ 10000000 := by
  have h1 := tot_nonneg (xs := xs.take k) fun x hx => (hr x (List.mem_of_mem_take hx)).1
  have h2 := tot_le (xs := xs.take k) (m := 100000) fun x hx => (hr x (List.mem_of_mem_take hx)).2
  have h3 : (xs.take k).length ≤ xs.length := by simp; omega
  omega
set_option maxHeartbeats 400000 in
theorem total_any (A : Option Addr) (c n : Nat) (xs : List Int) (w : World) (hn : xs.length = n) (hx : Seq IntV w A xs) (hr : ∀ x ∈ xs, 0 ≤ x ∧ x ≤ 100000) (hl : n ≤ 100) :
    Calls Try.prog 34 #[.slice A n c] w fun e w' => e = .returned (.int .i64 (tot xs)) ∧ w = w' := by
  subst hn
  have HR := Lib.hid hr
  clear hr
  go_enter Try.func34, Try.ntmps34
  go_wp2
  go_loop [3, 8] (fun m i => ∃ k : Nat, k ≤ xs.length ∧ i = .int .i64 k ∧ m = .int .i64 (tot (xs.take k))) (fun _ i => xs.length - (intOf i).toNat)
  case atStart => exact ⟨0, Nat.zero_le _, rfl, rfl⟩
  case round =>
    obtain ⟨k, hk, rfl, rfl⟩ := hrel
    have m0 := (tot_take_bound HR.out hl k).1
    have m1 := (tot_take_bound HR.out hl k).2
    by_cases hlt : k < xs.length
    · obtain ⟨b, o, x, rfl, hb, hxk, hc⟩ := hx.at_ hlt
      have x0 := (HR.out x (List.mem_of_getElem? hxk)).1
      have x1 := (HR.out x (List.mem_of_getElem? hxk)).2
      have HX := Lib.hid hxk
      clear hxk
      go_wp2
      go_round
      case rel => exact ⟨k + 1, by omega, by go_num, by rw [tot_snoc HX.out]⟩
      case measure => simp [intOf]; omega
    · go_wp2
      go_ret
      exact ⟨ret_int (by rw [List.take_of_length_le (by omega)]), rfl⟩
end Go.Proofs.Ytloehocldbfbbaa
