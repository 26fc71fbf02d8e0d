/- The persons of the exact law: from one type to the other, compared, marked. -/
import Derived.Test.YtncnghmadeghlaaTofW
import Derived.Test.YtncnghmadeghlaaBlk
import Derived.Deep.QuietTactic
import Derived.BigQuiet
import Derived.Deep.RegionLaw
import Derived.Handy
namespace Go.Proofs.Ytncnghmadeghlaa
open Go.RowKit
set_option linter.unusedVariables false
theorem szPersonS_any (A : Option Addr) (c n l : Nat) (w : World) (hn : n ≤ maxLen) (hl : l ≤ 2 ^ 20) :
    Calls Try.prog 15 #[.slice A n c, .int .i64 l] w fun e w' => e = .returned (.int .i64 (if n ≤ l then ((l - n : Nat) : Int) else -1)) ∧ w = w' := by
  unfold maxLen at hn
  by_cases h : n ≤ l
  · rw [if_pos h]
    have h1 : decide ((l : Int) - (n : Int) < 0) = false := decide_eq_false (by omega)
    have h2 : ((l - n : Nat) : Int) = (l : Int) - (n : Int) := by omega
    rw [h2]
    go_enter Try.func15, Try.ntmps15
    go_wp2_with fail
    go_ret
    exact ⟨rfl, rfl⟩
  · rw [if_neg h]
    have h1 : (l : Int) - (n : Int) < 0 := by omega
    go_enter Try.func15, Try.ntmps15
    go_wp2_with fail
    go_ret
    exact ⟨rfl, rfl⟩
set_option maxHeartbeats 1000000 in
theorem toPerson_any (p : Per) (w : World) : Calls Try.prog 46 #[PV p] w fun e w' => e = .returned (PV p) ∧ Below w.heap.size w w' := by
  obtain ⟨a, j, s, y⟩ := p
  dsimp only [PV]
  go_enter Try.func46, Try.ntmps46
  go_wp2_with fail
  go_returns
  exact ⟨rfl, (((Below.refl _ _).alloc (Nat.le_refl _) _).alloc (by simp) _).alloc (by simp; omega) _⟩
def eqPer (p q : Per) : Bool := p.area == q.area && (p.job == q.job && (p.sex == q.sex && p.pay == q.pay))
set_option maxHeartbeats 1000000 in
theorem eqPerson_any (p q : Per) (w : World) : Calls Try.prog 50 #[PV p, PV q] w fun e w' => e = .returned (.bool (eqPer p q)) ∧ Below w.heap.size w w' := by
  obtain ⟨a, j, s, y⟩ := p
  obtain ⟨a', j', s', y'⟩ := q
  dsimp only [PV, eqPer]
  by_cases h1 : a = a'
  · by_cases h2 : j = j'
    · by_cases h3 : s = s'
      · by_cases h4 : y = y'
        · subst h1 h2 h3 h4
          rw [show (a == a && (j == j && (s == s && y == y))) = true by simp]
          go_enter Try.func50, Try.ntmps50
          go_wp2_with fail
          go_ret
          exact ⟨rfl, ((Below.refl _ _).alloc (Nat.le_refl _) _).alloc (by simp) _⟩
        · subst h1 h2 h3
          rw [show (a == a && (j == j && (s == s && y == y'))) = false by simp [h4]]
          have e4 : (y != y') = true := by simp [h4]
          go_enter Try.func50, Try.ntmps50
          go_wp2_with fail
          go_ret
          exact ⟨rfl, ((Below.refl _ _).alloc (Nat.le_refl _) _).alloc (by simp) _⟩
      · subst h1 h2
        rw [show (a == a && (j == j && (s == s' && y == y'))) = false by simp [h3]]
        have e4 : (s != s') = true := by simp [h3]
        go_enter Try.func50, Try.ntmps50
        go_wp2_with fail
        go_ret
        exact ⟨rfl, ((Below.refl _ _).alloc (Nat.le_refl _) _).alloc (by simp) _⟩
    · subst h1
      rw [show (a == a && (j == j' && (s == s' && y == y'))) = false by simp [h2]]
      have e4 : (j != j') = true := by simp [h2]
      go_enter Try.func50, Try.ntmps50
      go_wp2_with fail
      go_ret
      exact ⟨rfl, ((Below.refl _ _).alloc (Nat.le_refl _) _).alloc (by simp) _⟩
  · rw [show (a == a' && (j == j' && (s == s' && y == y'))) = false by simp [h1]]
    have e4 : (a != a') = true := by simp [h1]
    go_enter Try.func50, Try.ntmps50
    go_wp2_with fail
    go_ret
    exact ⟨rfl, ((Below.refl _ _).alloc (Nat.le_refl _) _).alloc (by simp) _⟩
set_option maxHeartbeats 1000000 in
theorem eqPersonS_same (A B : Option Addr) (c d : Nat) (ps : List Per) (w : World) (hx : SeqP w A ps) (hy : SeqP w B ps) (hl : ps.length ≤ 1048576) :
    Calls Try.prog 20 #[.slice A ps.length c, .slice B ps.length d] w (Gives (.bool true) w) := by
  go_enter Try.func20, Try.ntmps20
  go_wp2_with fail
  go_loopw [5] (fun i wr => ∃ k : Nat, k ≤ ps.length ∧ i = .int .i64 k ∧ Hid (Below w.heap.size w wr)) (fun i _ => ps.length - (intOf i).toNat)
  case atStart => exact ⟨0, Nat.zero_le _, rfl, Lib.hid (Below.refl _ _)⟩
  case round =>
    obtain ⟨k, hk, rfl, HB⟩ := hrel
    obtain ⟨W, rfl⟩ : ∃ W : World, W = wr := ⟨_, rfl⟩
    by_cases hlt : k < ps.length
    · obtain ⟨b, o, ⟨a, j, s, y⟩, rfl, hbb, hpk, hc⟩ := (hx.below HB.out).at_ hlt
      obtain ⟨b', o', p', rfl, hbb', hpk', hc'⟩ := (hy.below HB.out).at_ hlt
      rw [hpk] at hpk'
      injection hpk' with hpk'
      subst hpk'
      obtain ⟨c0, c1, c2, c3⟩ := hc
      obtain ⟨d0, d1, d2, d3⟩ := hc'
      dsimp only at c0 c1 c2 c3 d0 d1 d2 d3
      have HE := Lib.hid (eqPerson_any ⟨a, j, s, y⟩ ⟨a, j, s, y⟩)
      have he : eqPer ⟨a, j, s, y⟩ ⟨a, j, s, y⟩ = true := by simp [eqPer]
      rw [he] at HE
      clear he
      go_wp2_with fail
      go_region_with
        (first | (go_at_call 50; refine (HE.out _).mono ?_; rintro e w9 ⟨rfl, hb9⟩))
      all_goals
        have HB9 : Hid (Below w.heap.size w w9) := Lib.hid (HB.out.drew.trans (hb9.mono (by simpa using HB.out.size)))
        clear hb9
        go_wp2_with fail
        exact ⟨⟨k + 1, hlt, rfl, HB9⟩, by simp only [intOf]; omega⟩
    · go_wp2_with fail
      go_ret
      exact ⟨rfl, HB.out⟩
end Go.Proofs.Ytncnghmadeghlaa
