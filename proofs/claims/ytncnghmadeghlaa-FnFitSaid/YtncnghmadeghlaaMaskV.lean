/- Contracts of MaskValid of program and reference. -/
import Derived.Test.YtncnghmadeghlaaTabValidS
namespace Go.Proofs.Ytncnghmadeghlaa
open Go.RowKit
set_option linter.unusedVariables false
def lensOk {α : Type} (n : Nat) (m : List (List α)) : Bool := m.all (fun r => decide (r.length = n))
def maskValid {α : Type} (t : List (List Int)) (m : List (List α)) : Bool := tabValid t && decide (m.length = t.length) && lensOk (wid t) m
theorem lens_step {α : Type} {n : Nat} {m : List (List α)} {k : Nat} {r : List α} (h : m[k]? = some r) : lensOk n (m.drop k) = (decide (r.length = n) && lensOk n (m.drop (k + 1))) := by
  rw [drop_cons h]; rfl
theorem maskValid_no {α : Type} {t : List (List Int)} {m : List (List α)} (h : tabValid t = false) : maskValid t m = false := by rw [maskValid, h]; rfl
theorem maskValid_len {α : Type} {t : List (List Int)} {m : List (List α)} (h : m.length ≠ t.length) : maskValid t m = false := by rw [maskValid, decide_eq_false h, Bool.and_false, Bool.false_and]
theorem maskValid_yes {α : Type} {t : List (List Int)} {m : List (List α)} (h : tabValid t = true) (hl : m.length = t.length) : maskValid t m = lensOk (wid t) m := by rw [maskValid, h, decide_eq_true hl]; rfl
set_option maxHeartbeats 1000000 in
theorem implMaskValid_any (A B : Option Addr) (c d : Nat) (t : List (List Int)) (m : List (List Bool)) (w : World) (hx : Tab IntV w A t) (hy : Tab BoolV w B m) (hl : t.length ≤ maxLen) (hm : m.length ≤ maxLen) :
    Calls Try.prog 72 #[.slice A t.length c, .slice B m.length d] w fun e w' => e = .returned (.bool (maskValid t m)) ∧ w = w' := by
  unfold maxLen at hm
  cases hv : tabValid t
  · have HV := Lib.hid hv
    go_enter Try.func72, Try.ntmps72
    go_wp2_with fail
    refine (implTableValid_any A c t _ hx hl).mono ?_
    rintro e w' ⟨rfl, rfl⟩
    go_wp2_with fail
    go_ret
    exact ⟨ret_bool (maskValid_no HV.out).symm, rfl⟩
  have HV := Lib.hid hv
  have hti := tabValid_iff.1 hv
  have hl4 : t.length ≤ 4 := hti.1.2.1
  have hl0 : 1 ≤ t.length := hti.1.1
  have hw4 : wid t ≤ 4 := hti.1.2.2.2
  clear hti
  by_cases hn : m.length = t.length
  · have hn' : ((m.length : Int) != (t.length : Int)) = false := by simp [hn]
    have HY : Hid (maskValid t m = lensOk (wid t) m) := Lib.hid (maskValid_yes HV.out hn)
    have hm4 : m.length ≤ 4 := by omega
    clear hn
    obtain ⟨b, o, r0, A0, c0, rfl, hb, hr0, hc0, hL0⟩ := hx.at_ (k := 0) (by omega)
    have hw := wid_at hr0
    have HW := Lib.hid hw
    have hr4 : r0.length ≤ 4 := by omega
    clear hw hL0 hr0
    simp only [Nat.add_zero] at hc0
    go_enter Try.func72, Try.ntmps72
    go_wp2_with fail
    refine (implTableValid_any _ c t _ hx hl).mono ?_
    rintro e w' ⟨rfl, rfl⟩
    go_wp2_with fail
    go_loop [19] (fun i => ∃ k : Nat, k ≤ m.length ∧ i = .int .i64 k ∧ Hid (maskValid t m = lensOk r0.length (m.drop k))) (fun i => m.length - (intOf i).toNat)
    case atStart => exact ⟨0, Nat.zero_le _, rfl, Lib.hid (by rw [HY.out, HW.out]; simp)⟩
    case round =>
      obtain ⟨k, hk, rfl, HP⟩ := hrel
      by_cases hlt : k < m.length
      · obtain ⟨b', o', r, Ar, cr, rfl, hb', hr, hc, hL⟩ := hy.at_ hlt
        have hrm : (r.length : Int) ≤ 9223372036854775807 := by have h1 := hL.2.1; have h2 := hL.2.2.1; unfold maxLen at h2; omega
        have HR := Lib.hid (lens_step (n := r0.length) hr)
        clear hr hL
        by_cases hq : r.length = r0.length
        · have hq' : ((r.length : Int) != (r0.length : Int)) = false := by simp [hq]
          have HQ := Lib.hid hq
          clear hq
          go_wp2_with fail
          go_round
          case rel => exact ⟨k + 1, by omega, by go_num, Lib.hid (by rw [HP.out, HR.out, decide_eq_true HQ.out, Bool.true_and])⟩
          case measure => simp [intOf]; omega
        · have hq' : ((r.length : Int) != (r0.length : Int)) = true := by simp; omega
          go_wp2_with fail
          go_ret
          exact ⟨ret_bool (by rw [HP.out, HR.out, decide_eq_false hq]; rfl), rfl⟩
      · go_wp2_with fail
        go_ret
        exact ⟨ret_bool (by rw [HP.out, List.drop_eq_nil_of_le (by omega)]; rfl), rfl⟩
  · have hn' : ((m.length : Int) != (t.length : Int)) = true := by simp; omega
    go_enter Try.func72, Try.ntmps72
    go_wp2_with fail
    refine (implTableValid_any A c t _ hx hl).mono ?_
    rintro e w' ⟨rfl, rfl⟩
    go_wp2_with fail
    go_ret
    exact ⟨ret_bool (maskValid_len hn).symm, rfl⟩
set_option maxHeartbeats 1000000 in
theorem specMaskValid_any (A B : Option Addr) (c d : Nat) (t : List (List Int)) (m : List (List Bool)) (w : World) (hx : Tab IntV w A t) (hy : Tab BoolV w B m) (hl : t.length ≤ maxLen) (hm : m.length ≤ maxLen) :
    Calls Try.prog 68 #[.slice A t.length c, .slice B m.length d] w fun e w' => e = .returned (.bool (maskValid t m)) ∧ Qu w w' := by
  unfold maxLen at hm
  cases hv : tabValid t
  · have HV := Lib.hid hv
    go_enter Try.func68, Try.ntmps68
    go_wp2_with fail
    refine (specTableValid_any A c t _ hx hl).mono ?_
    rintro e w1 ⟨rfl, hq⟩
    go_wp2_with fail
    go_ret
    exact ⟨ret_bool (maskValid_no HV.out).symm, hq⟩
  have HV := Lib.hid hv
  have hti := tabValid_iff.1 hv
  have hl4 : t.length ≤ 4 := hti.1.2.1
  have hl0 : 1 ≤ t.length := hti.1.1
  have hw4 : wid t ≤ 4 := hti.1.2.2.2
  clear hti
  by_cases hn : m.length = t.length
  · have hn' : ((m.length : Int) != (t.length : Int)) = false := by simp [hn]
    have HY : Hid (maskValid t m = lensOk (wid t) m) := Lib.hid (maskValid_yes HV.out hn)
    have hm4 : m.length ≤ 4 := by omega
    clear hn
    obtain ⟨b, o, r0, A0, c0, rfl, hb, hr0, hc0, hL0⟩ := hx.at_ (k := 0) (by omega)
    have hw := wid_at hr0
    have HW := Lib.hid hw
    have hr4 : r0.length ≤ 4 := by omega
    have hpos : 0 < t.length := by omega
    clear hw hL0 hr0
    simp only [Nat.add_zero] at hc0
    go_enter Try.func68, Try.ntmps68
    go_wp2_with fail
    refine (specTableValid_any _ c t _ hx hl).mono ?_
    rintro e w1 ⟨rfl, hq1⟩
    have HQ1 := Lib.hid hq1
    clear hq1
    go_wp2_with fail
    go_loopw [5] (fun i wr => ∃ k : Nat, k ≤ m.length ∧ i = .int .i64 k ∧ Hid (maskValid t m = lensOk r0.length (m.drop k)) ∧ Hid (Qu w wr)) (fun i _ => m.length - (intOf i).toNat)
    case atStart => exact ⟨0, Nat.zero_le _, rfl, Lib.hid (by rw [HY.out, HW.out]; simp), HQ1⟩
    case round =>
      obtain ⟨k, hk, rfl, HP, HQ⟩ := hrel
      by_cases hlt : k < m.length
      · obtain ⟨b', o', r, Ar, cr, rfl, hb', hr, hc, hL⟩ := (hy.below HQ.out.below).at_ hlt
        have hc0' : wr.cell? ⟨b, o, none⟩ = some (.slice A0 r0.length c0) := (HQ.out.below.cell (p := ⟨b, o, none⟩) hb).trans hc0
        have hrm : (r.length : Int) ≤ 9223372036854775807 := by have h1 := hL.2.1; have h2 := hL.2.2.1; unfold maxLen at h2; omega
        have HR := Lib.hid (lens_step (n := r0.length) hr)
        have g1 : (k : Int) < (m.length : Int) := by omega
        have g2 : (0 : Int) < (t.length : Int) := by omega
        clear hr hL
        by_cases hq : r.length = r0.length
        · have hq' : ((r.length : Int) != (r0.length : Int)) = false := by simp [hq]
          have HQ2 := Lib.hid hq
          clear hq
          go_wp2_with fail
          go_quiet (fail)
          go_wp2_with fail
          go_roundw
          case rel => exact ⟨k + 1, by omega, by go_num, Lib.hid (by rw [HP.out, HR.out, decide_eq_true HQ2.out, Bool.true_and]), Lib.hid (HQ.out.drewN _)⟩
          case measure => simp [intOf]; omega
        · have hq' : ((r.length : Int) != (r0.length : Int)) = true := by simp; omega
          go_wp2_with fail
          go_quiet (fail)
          go_wp2_with fail
          go_ret
          exact ⟨ret_bool (by rw [HP.out, HR.out, decide_eq_false hq]; rfl), HQ.out.drewN _⟩
      · go_wp2_with fail
        go_ret
        exact ⟨ret_bool (by rw [HP.out, List.drop_eq_nil_of_le (by omega)]; rfl), HQ.out⟩
  · have hn' : ((m.length : Int) != (t.length : Int)) = true := by simp; omega
    go_enter Try.func68, Try.ntmps68
    go_wp2_with fail
    refine (specTableValid_any A c t _ hx hl).mono ?_
    rintro e w1 ⟨rfl, hq⟩
    go_wp2_with fail
    go_ret
    exact ⟨ret_bool (maskValid_len hn).symm, hq⟩
end Go.Proofs.Ytncnghmadeghlaa
