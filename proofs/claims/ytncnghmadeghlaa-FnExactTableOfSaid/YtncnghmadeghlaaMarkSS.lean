/- Contracts of markIntSS and heldIntSS. -/
import Derived.Test.YtncnghmadeghlaaMark
namespace Go.Proofs.Ytncnghmadeghlaa
open Go.RowKit
set_option linter.unusedVariables false
theorem numT_rows {α β : Type} {φ : Int → α} {t : List (List β)} {k : Int} {M : Nat} (h : ∀ r ∈ t, r.length ≤ M) : ∀ r ∈ numT φ t k, r.length ≤ M := by
  intro r hr
  obtain ⟨i, hi, e⟩ := List.mem_iff_getElem.1 hr
  have hi' : i < t.length := by rwa [numT_len] at hi
  have := numT_get φ t k i _ (List.getElem?_eq_getElem hi')
  rw [List.getElem?_eq_getElem hi, e] at this
  injection this with this
  rw [this, numL_len]
  exact h _ (List.getElem_mem hi')
set_option maxHeartbeats 400000 in
theorem markIntSS_any (A : Option Addr) (c : Nat) (t : List (List Int)) (k : Int) (lo hi : Nat) (w : World) (ho : Hold IntV 3 lo hi w A t) (hl : t.length ≤ 1048576) (hr : ∀ r ∈ t, r.length ≤ 1048576) (k0 : 0 ≤ k) (k1 : k ≤ 1) :
    Calls Try.prog 22 #[.slice A t.length c, .int .i64 k] w fun e w' => e = .returned (.int .i64 (numE t k)) ∧ Hold IntV 3 lo hi w' A (numT (fun x => x) t k) ∧ Turns lo hi w w' := by
  have HO := Lib.hid ho
  have HR := Lib.hid hr
  clear ho hr
  go_enter Try.func22, Try.ntmps22
  go_wp2_with fail
  go_loopw [1, 5] (fun v i wr => ∃ j : Nat, j ≤ t.length ∧ i = .int .i64 j ∧ v = .int .i64 (numE (t.take j) k) ∧ Hid (Hold IntV 3 lo hi wr A (midT (fun x => x) t k j)) ∧ Hid (Turns lo hi w wr)) (fun _ i _ => t.length - (intOf i).toNat)
  case atStart => exact ⟨0, Nat.zero_le _, rfl, by simp [numE], Lib.hid (by rw [midT_zero]; exact HO.out), Lib.hid (Turns.refl _ _ _)⟩
  case round =>
    obtain ⟨j, hj, rfl, rfl, HM, HT⟩ := hrel
    obtain ⟨wo, rfl⟩ : ∃ wo : World, wo = wr := ⟨_, rfl⟩
    have b0 := numE_ge (t.take j) k
    have b1 := numE_le HR.out j k
    have b2 : t.length * 1048576 ≤ 1048576 * 1048576 := Nat.mul_le_mul hl (Nat.le_refl _)
    obtain ⟨q, eq⟩ : ∃ q, numE (t.take j) k = q := ⟨_, rfl⟩
    rw [eq] at b0 b1
    have q1 : q ≤ 1100000000000 := by omega
    have q0 : 0 ≤ q := by omega
    have EQ := Lib.hid eq
    rw [eq]
    clear b0 b1 b2 eq
    by_cases hlt : j < t.length
    · obtain ⟨g, vs, rfl, hT⟩ := HM.out (by rw [midT_len _ _ _ hj]; omega)
      have hrj := List.getElem?_eq_getElem hlt
      obtain ⟨r, er⟩ : ∃ r, t[j] = r := ⟨_, rfl⟩
      rw [er] at hrj
      have hrl := HR.out r (List.mem_of_getElem? hrj)
      have hmid := midT_get (fun x => x) (k := k) hrj
      have hrow := hT.row j r hmid
      obtain ⟨Ar, cr, hv, -⟩ := own_slice hrow
      have hcell : wo.cell? ⟨g, j, none⟩ = some (.slice Ar r.length cr) := by rw [← hv]; exact hT.outer j (by rw [midT_len _ _ _ hj]; exact hlt)
      rw [hv] at hrow
      have HRJ := Lib.hid hrj
      have HV := Lib.hid hv
      have HTT := Lib.hid hT
      have HMID := Lib.hid hmid
      clear hrj hv hT hmid er
      go_wp2_with fail
      refine (markIntS_any Ar r.length cr r q lo _ rfl hrow hrl q0 (by omega)).mono ?_
      rintro e w1 ⟨rfl, ho1, hg1⟩
      have HE : Hid (q + (r.length : Int) = numE (t.take (j + 1)) k) := Lib.hid (by rw [numE_step HRJ.out, EQ.out])
      have HM2 : Hid (Hold IntV 3 lo hi w1 (some ⟨g, 0, none⟩) (midT (fun x => x) t k (j + 1))) := Lib.hid (fun _ => ⟨g, vs, rfl, by
        rw [← midT_step _ HRJ.out, EQ.out]
        exact HTT.out.turnrow HMID.out (by rw [numL_len]) (by rw [numL_len, HV.out]; exact ho1) (by rw [HV.out]; exact hg1)⟩)
      have HT2 : Hid (Turns lo hi w w1) := Lib.hid (HT.out.trans (Turns.grown hg1 fun b hb => ⟨(hrow.lt b hb).1, (HTT.out.top j b (by rw [midT_len _ _ _ hj]; exact hlt) (by rw [HV.out]; exact hb)).1⟩))
      clear ho1 hg1 hrow hcell HTT HM HT
      go_wp2_with fail
      go_roundw
      case rel => exact ⟨j + 1, by omega, by go_num, by rw [HE.out], HM2, HT2⟩
      case measure => simp [intOf]; omega
    · obtain rfl : j = t.length := by omega
      go_wp2_with fail
      go_ret
      refine ⟨ret_int (by rw [← EQ.out, List.take_length]), ?_, HT.out⟩
      rw [← midT_all]
      exact HM.out
set_option maxHeartbeats 400000 in
theorem heldIntSS_any (A : Option Addr) (c : Nat) (t : List (List Int)) (k : Int) (w : World) (hx : Tab IntV w A (numT (fun x => x) t k)) (hl : t.length ≤ 1048576) (hr : ∀ r ∈ t, r.length ≤ 1048576) (k0 : 0 ≤ k) (k1 : k ≤ 1) :
    Calls Try.prog 23 #[.slice A t.length c, .int .i64 k] w fun e w' => e = .returned (.int .i64 (numE t k)) ∧ Qu w w' := by
  have HR := Lib.hid hr
  clear hr
  go_enter Try.func23, Try.ntmps23
  go_wp2_with fail
  go_loopw [1, 5] (fun v i wr => ∃ j : Nat, j ≤ t.length ∧ i = .int .i64 j ∧ v = .int .i64 (numE (t.take j) k) ∧ Hid (Qu w wr)) (fun _ i _ => t.length - (intOf i).toNat)
  case atStart => exact ⟨0, Nat.zero_le _, rfl, by simp [numE], Lib.hid (Qu.refl _)⟩
  case round =>
    obtain ⟨j, hj, rfl, rfl, HQ⟩ := hrel
    obtain ⟨wo, rfl⟩ : ∃ wo : World, wo = wr := ⟨_, rfl⟩
    have b0 := numE_ge (t.take j) k
    have b1 := numE_le HR.out j k
    have b2 : t.length * 1048576 ≤ 1048576 * 1048576 := Nat.mul_le_mul hl (Nat.le_refl _)
    obtain ⟨q, eq⟩ : ∃ q, numE (t.take j) k = q := ⟨_, rfl⟩
    rw [eq] at b0 b1
    have q1 : q ≤ 1100000000000 := by omega
    have q0 : 0 ≤ q := by omega
    have EQ := Lib.hid eq
    rw [eq]
    clear b0 b1 b2 eq
    by_cases hlt : j < t.length
    · obtain ⟨b, o, r, Ar, cr, rfl, hb, hrk, hc, hL⟩ := (hx.below HQ.out.below).at_ (k := j) (by rw [numT_len]; exact hlt)
      have hrj := List.getElem?_eq_getElem hlt
      obtain ⟨r0, er⟩ : ∃ r, t[j] = r := ⟨_, rfl⟩
      rw [er] at hrj
      rw [numT_get _ _ _ _ _ hrj, EQ.out] at hrk
      injection hrk with hrk
      subst hrk
      have hrl := HR.out r0 (List.mem_of_getElem? hrj)
      rw [numL_len] at hc
      have HE : Hid (q + (r0.length : Int) = numE (t.take (j + 1)) k) := Lib.hid (by rw [numE_step hrj, EQ.out])
      clear hrj er
      go_wp2_with fail
      refine (heldIntS_any Ar r0.length cr q _ hL.1 hrl q0 (by omega)).mono ?_
      rintro e w1 ⟨rfl, hq1⟩
      have HQ1 := Lib.hid (HQ.out.trans hq1)
      have nn : decide (q + (r0.length : Int) < 0) = false := decide_eq_false (by omega)
      clear hq1 hL hc
      go_wp2_with fail
      go_roundw
      case rel => exact ⟨j + 1, by omega, by go_num, by rw [HE.out], HQ1⟩
      case measure => simp [intOf]; omega
    · obtain rfl : j = t.length := by omega
      go_wp2_with fail
      go_ret
      exact ⟨ret_int (by rw [← EQ.out, List.take_length]), HQ.out⟩
end Go.Proofs.Ytncnghmadeghlaa
