/- l13Cell, l13Open: the cell between two places, and whether a step may change it. -/
import Derived.Test.YtncnghmadeghlaaBfs
import Derived.Test.YtncnghmadeghlaaMkW
import Derived.Test.YtncnghmadeghlaaL6In
import Derived.Outline
import Derived.IntWalk
namespace Go.Proofs.Ytncnghmadeghlaa
open Go.RowKit
set_option linter.unusedVariables false
theorem l13Cell_any (h u v k l : Nat) (w : World) (hc : u = k ∧ v = h + l ∨ u = h + l ∧ v = k) (hk : k < h) (hh : h ≤ 100) (hl : l ≤ 100) :
    Calls Try.prog 91 #[.int .i64 h, .int .i64 u, .int .i64 v] w fun e w' => e = .returned (.tuple #[.int .i64 k, .int .i64 l]) ∧ w = w' := by
  rcases hc with ⟨h1, h2⟩ | ⟨h1, h2⟩
  · have e1 : ((v : Int) < (u : Int)) = False := eq_false (by omega)
    have e2 : ((u : Int) < (v : Int)) = True := eq_true (by omega)
    have hv2 : v ≤ 200 := by omega
    have hu2 : u ≤ 200 := by omega
    have H1 := Lib.hid h1
    have H2 := Lib.hid h2
    clear h1 h2
    go_enter Try.func91, Try.ntmps91
    go_wp2_with fail
    go_ret2
    have f1 := H1.out
    have f2 := H2.out
    exact ⟨ret_tup (by rw [show (v : Int) - (h : Int) = (l : Int) by omega, show (u : Int) = (k : Int) by omega]; rfl), rfl⟩
  · have e1 : ((v : Int) < (u : Int)) = True := eq_true (by omega)
    have e2 : ((u : Int) < (v : Int)) = False := eq_false (by omega)
    have hv2 : v ≤ 200 := by omega
    have hu2 : u ≤ 200 := by omega
    have H1 := Lib.hid h1
    have H2 := Lib.hid h2
    clear h1 h2
    go_enter Try.func91, Try.ntmps91
    go_wp2_with fail
    go_ret2
    have f1 := H1.out
    have f2 := H2.out
    exact ⟨ret_tup (by rw [show (u : Int) - (h : Int) = (l : Int) by omega, show (v : Int) = (k : Int) by omega]; rfl), rfl⟩
/-- whether a step may change a cell -/
def openF (h : Nat) (M : Nat → Nat → Bool) (X : Nat → Nat → Int) (raise : Bool) (u v : Nat) : Bool :=
  if u < h then (if v < h then false else M u (v - h) && (!raise || decide (0 < X u (v - h)))) else (if v < h then M v (u - h) && (raise || decide (0 < X v (u - h))) else false)
theorem edge_open {h wd a b u v : Nat} {M : Nat → Nat → Bool} {X : Nat → Nat → Int} {raise : Bool} (hu : u < h + wd) (hv : v < h + wd) : Edge h wd a b M X raise u v ↔ openF h M X raise u v = true ∧ ¬ (u = a ∧ v = h + b) ∧ ¬ (u = h + b ∧ v = a) := by
  constructor
  · rintro (⟨k, l, rfl, rfl, hk, hl, hM, hne, hp⟩ | ⟨k, l, rfl, rfl, hk, hl, hM, hne, hp⟩)
    · refine ⟨?_, fun e => hne ⟨e.1, by omega⟩, fun e => by omega⟩
      rw [openF, if_pos hk, if_neg (by omega), show h + l - h = l by omega, hM]
      cases raise
      · rfl
      · simp [hp rfl]
    · refine ⟨?_, fun e => by omega, fun e => hne ⟨e.2, by omega⟩⟩
      rw [openF, if_neg (by omega), if_pos hk, show h + l - h = l by omega, hM]
      cases raise
      · simp [hp rfl]
      · rfl
  · rintro ⟨ho, h1, h2⟩
    unfold openF at ho
    by_cases hu' : u < h
    · rw [if_pos hu'] at ho
      by_cases hv' : v < h
      · rw [if_pos hv'] at ho; cases ho
      · rw [if_neg hv', Bool.and_eq_true] at ho
        refine .inl ⟨u, v - h, rfl, by omega, hu', by omega, ho.1, fun e => h1 ⟨e.1, by omega⟩, fun hr => ?_⟩
        have := ho.2
        rw [hr] at this
        simpa using this
    · rw [if_neg hu'] at ho
      by_cases hv' : v < h
      · rw [if_pos hv', Bool.and_eq_true] at ho
        refine .inr ⟨v, u - h, by omega, rfl, hv', by omega, ho.1, fun e => h2 ⟨by omega, e.1⟩, fun hr => ?_⟩
        have := ho.2
        rw [hr] at this
        simpa using this
      · rw [if_neg hv'] at ho; cases ho
set_option maxHeartbeats 1000000 in
theorem l13Open_any (A B : Option Addr) (c d h wd u v : Nat) (X : Nat → Nat → Int) (M : Nat → Nat → Bool) (raise : Bool) (w : World) (hx : Tab IntV w A (mkT h wd X)) (hm : Tab BoolV w B (mkT h wd M)) (hh : h ≤ 100) (hw : wd ≤ 100) (hu : u < h + wd) (hv : v < h + wd) :
    Calls Try.prog 92 #[.slice A h c, .slice B h d, .int .i64 u, .int .i64 v, .bool raise] w fun e w' => e = .returned (.bool (openF h M X raise u v)) ∧ w = w' := by
  by_cases hu' : u < h
  · by_cases hv' : v < h
    · have e1 : decide ((u : Int) < (h : Int)) = true := decide_eq_true (by omega)
      have e2 : decide ((v : Int) < (h : Int)) = true := decide_eq_true (by omega)
      have ho : openF h M X raise u v = false := by rw [openF, if_pos hu', if_pos hv']
      rw [ho]
      clear ho
      go_enter Try.func92, Try.ntmps92
      go_wp2_with fail
      go_ret
      exact ⟨rfl, rfl⟩
    · have e1 : decide ((u : Int) < (h : Int)) = true := decide_eq_true (by omega)
      have e2 : decide ((v : Int) < (h : Int)) = false := decide_eq_false (by omega)
      obtain ⟨j, hj⟩ : ∃ j, v - h = j := ⟨_, rfl⟩
      have ho : openF h M X raise u v = (M u j && (!raise || decide (0 < X u j))) := by rw [openF, if_pos hu', if_neg hv', hj]
      rw [ho]
      have hjw : j < wd := by omega
      have HJ := Lib.hid hj
      obtain ⟨b, o, b', o', c', rfl, hbb, k1, hbb', k2, -⟩ := hm.mk hu' hjw
      obtain ⟨e, p, e', p', c'', rfl, hee, k3, hee', k4, -⟩ := hx.mk hu' hjw
      obtain ⟨x, hxx⟩ : ∃ x, X u j = x := ⟨_, rfl⟩
      obtain ⟨m, hmm⟩ : ∃ m, M u j = m := ⟨_, rfl⟩
      rw [hxx] at k4 ⊢
      rw [hmm] at k2 ⊢
      have g1 : (u : Int) < (h : Int) := by omega
      have g2 : (j : Int) < (wd : Int) := by omega
      have hcall := l13Cell_any h u v u j w (.inl ⟨rfl, by omega⟩) hu' hh (by omega)
      have HC := Lib.hid hcall
      clear ho hj hxx hmm hcall
      by_cases hp : 0 < x
      · have e3 : decide (0 < x) = true := decide_eq_true hp
        cases m <;> cases raise
        all_goals
          go_enter Try.func92, Try.ntmps92
          go_wp2_with fail
          refine HC.out.mono ?_
          rintro e w' ⟨rfl, rfl⟩
          go_wp2_with fail
          go_ret
          exact ⟨by simp [hp], rfl⟩
      · have e3 : decide (0 < x) = false := decide_eq_false hp
        cases m <;> cases raise
        all_goals
          go_enter Try.func92, Try.ntmps92
          go_wp2_with fail
          refine HC.out.mono ?_
          rintro e w' ⟨rfl, rfl⟩
          go_wp2_with fail
          go_ret
          exact ⟨by simp [hp], rfl⟩
  · by_cases hv' : v < h
    · have e1 : decide ((u : Int) < (h : Int)) = false := decide_eq_false (by omega)
      have e2 : decide ((v : Int) < (h : Int)) = true := decide_eq_true (by omega)
      obtain ⟨j, hj⟩ : ∃ j, u - h = j := ⟨_, rfl⟩
      have ho : openF h M X raise u v = (M v j && (raise || decide (0 < X v j))) := by rw [openF, if_neg hu', if_pos hv', hj]
      rw [ho]
      have hjw : j < wd := by omega
      have HJ := Lib.hid hj
      obtain ⟨b, o, b', o', c', rfl, hbb, k1, hbb', k2, -⟩ := hm.mk hv' hjw
      obtain ⟨e, p, e', p', c'', rfl, hee, k3, hee', k4, -⟩ := hx.mk hv' hjw
      obtain ⟨x, hxx⟩ : ∃ x, X v j = x := ⟨_, rfl⟩
      obtain ⟨m, hmm⟩ : ∃ m, M v j = m := ⟨_, rfl⟩
      rw [hxx] at k4 ⊢
      rw [hmm] at k2 ⊢
      have g1 : (v : Int) < (h : Int) := by omega
      have g2 : (j : Int) < (wd : Int) := by omega
      have hcall := l13Cell_any h u v v j w (.inr ⟨by omega, rfl⟩) hv' hh (by omega)
      have HC := Lib.hid hcall
      clear ho hj hxx hmm hcall
      by_cases hp : 0 < x
      · have e3 : decide (0 < x) = true := decide_eq_true hp
        cases m <;> cases raise
        all_goals
          go_enter Try.func92, Try.ntmps92
          go_wp2_with fail
          refine HC.out.mono ?_
          rintro e w' ⟨rfl, rfl⟩
          go_wp2_with fail
          go_ret
          exact ⟨by simp [hp], rfl⟩
      · have e3 : decide (0 < x) = false := decide_eq_false hp
        cases m <;> cases raise
        all_goals
          go_enter Try.func92, Try.ntmps92
          go_wp2_with fail
          refine HC.out.mono ?_
          rintro e w' ⟨rfl, rfl⟩
          go_wp2_with fail
          go_ret
          exact ⟨by simp [hp], rfl⟩
    · have e1 : decide ((u : Int) < (h : Int)) = false := decide_eq_false (by omega)
      have e2 : decide ((v : Int) < (h : Int)) = false := decide_eq_false (by omega)
      have ho : openF h M X raise u v = false := by rw [openF, if_neg hu', if_neg hv']
      rw [ho]
      clear ho
      go_enter Try.func92, Try.ntmps92
      go_wp2_with fail
      go_ret
      exact ⟨rfl, rfl⟩
end Go.Proofs.Ytncnghmadeghlaa
