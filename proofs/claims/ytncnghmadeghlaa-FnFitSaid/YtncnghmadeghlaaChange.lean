/- l13Change: a cell of a table of one's own moves by one, and the cells of a way make up for it. -/
import Derived.Test.YtncnghmadeghlaaPathS
import Derived.Test.YtncnghmadeghlaaBound
import Derived.StillTailTactics
namespace Go.Proofs.Ytncnghmadeghlaa
open Go.RowKit
set_option linter.unusedVariables false
/-- what a change by one leaves -/
def Changed (h wd : Nat) (F : Nat → Nat → Int) (M : Nat → Nat → Bool) (a b : Nat) (X : Nat → Nat → Int) (raise : Bool) (lo hi g : Nat) (vs : Nat → Value) (w : World) (e : Ending) (w' : World) : Prop :=
  Turns lo hi w w' ∧ ((e = .returned (.bool false) ∧ OwnT IntV 3 lo hi w' g vs (mkT h wd X) ∧ (raise = true → ∀ Y, FitG h wd F M a b Y → Y a b ≤ X a b) ∧ (raise = false → ∀ Y, FitG h wd F M a b Y → X a b ≤ Y a b)) ∨
    (e = .returned (.bool true) ∧ ∃ X', OwnT IntV 3 lo hi w' g vs (mkT h wd X') ∧ FitG h wd F M a b X' ∧ X' a b = X a b + (if raise then 1 else -1)))
theorem idx_at {L : List Nat} (hd : L.Nodup) {t p : Nat} (h : L[t]? = some p) : L.idxOf p = t := by
  have hp := List.mem_of_getElem? h
  have hl := List.idxOf_lt_length_iff.2 hp
  have e : L[L.idxOf p]? = some p := by rw [List.getElem?_eq_getElem hl, List.getElem_idxOf]
  exact (List.getElem?_inj hl hd).1 (by rw [e, h])
theorem turns_of_below {lo hi : Nat} {w w' : World} (h : Below w.heap.size w w') : Turns lo hi w w' := ⟨h.os, h.tape, h.output, h.size, fun i hi' _ => h.block i hi'⟩
set_option maxRecDepth 100000 in
set_option maxHeartbeats 4000000 in
theorem l13Change_any (B : Option Addr) (c d h wd a b : Nat) (F X : Nat → Nat → Int) (M : Nat → Nat → Bool) (raise : Bool) (lo hi g : Nat) (vs : Nat → Value) (w0 w : World) (hO : OwnT IntV 3 lo hi w g vs (mkT h wd X)) (hm : Tab BoolV w0 B (mkT h wd M)) (hw0 : Below w0.heap.size w0 w) (hlo : w0.heap.size ≤ lo)
    (hF : ∀ i j, 0 ≤ F i j ∧ F i j ≤ 99) (hX : FitG h wd F M a b X) (h4 : h ≤ 4) (w4 : wd ≤ 4) (ha : a < h) (hb : b < wd) (hM : M a b = true) :
    Calls Try.prog 79 #[.slice (some ⟨g, 0, none⟩) h c, .slice B h d, .int .i64 a, .int .i64 b, .bool raise] w (Changed h wd F M a b X raise lo hi g vs w) := by
  obtain ⟨s, hs⟩ : ∃ s, s = h + b := ⟨_, rfl⟩
  have hsI : (h : Int) + (b : Int) = (s : Int) := by omega
  obtain ⟨n, hn⟩ : ∃ n, n = h + wd := ⟨_, rfl⟩
  have hsn : s < n := by omega
  have hmx : Try.prog.follows .mixedOrders = true := by kernel_rfl
  have HPC := Lib.hid (l13Path_any (some ⟨g, 0, none⟩) B c d h wd a b X M raise w hO.tab (hm.below hw0) h4 w4 ha hb)
  rw [← hn] at HPC
  have HSE := Lib.hid hs
  have HNE := Lib.hid hn
  have n8 : n ≤ 8 := by omega
  have hgin := hO.gin
  have hhin := hO.hin
  have HO := Lib.hid hO
  have HW0 := Lib.hid hw0
  clear hs hn hO hw0
  go_enter Try.func79, Try.ntmps79
  go_wp2_with fail
  refine HPC.out.mono ?_
  rintro e w1 ⟨Ap, cp, q, k, par, rfl, hpr, hB, hk, hb1⟩
  clear HPC
  obtain ⟨pb, rfl, hpb1, hpb2, cp0, -, -⟩ := own_mk hpr hsn
  obtain ⟨p, hp⟩ : ∃ p, par s = p := ⟨_, rfl⟩
  rw [hp] at cp0
  have g1 : (s : Int) < (n : Int) := by omega
  have HO1 := Lib.hid (HO.out.below hb1)
  have HT1 := Lib.hid (turns_of_below (lo := lo) (hi := hi) hb1)
  have HPR := Lib.hid hpr
  have HBF := Lib.hid hB
  have HPP := Lib.hid hp
  have HB1 := Lib.hid hb1
  have hs1 := hb1.size
  clear hpr hB hp hb1 HO
  by_cases hp0 : p < 0
  · have d0 : decide (p < 0) = true := decide_eq_true hp0
    go_wp2_with fail
    go_ret
    have hno : par (h + b) < 0 := by rw [← HSE.out, HPP.out]; exact hp0
    have hbf := HBF.out
    refine ⟨HT1.out, .inl ⟨rfl, HO1.out, fun hr Y hY => ?_, fun hr Y hY => ?_⟩⟩
    · subst hr; rw [HNE.out] at hbf; exact high_end ha hb hbf hk hno hX hY
    · subst hr; rw [HNE.out] at hbf; exact low_end ha hb hbf hk hno hX hY
  · have d0 : decide (p < 0) = false := decide_eq_false hp0
    have hway : ∃ L, Way (h + wd) a (Edge h wd a b M X raise) par (h + b) L := by
      have hbf := HBF.out
      rw [HNE.out] at hbf
      exact hbf.way (by omega) (by rw [← HSE.out, HPP.out]; omega)
    obtain ⟨L, hL⟩ := hway
    obtain ⟨δ, hδ, dr⟩ : ∃ δ : Int, δ = (if raise then 1 else -1) ∧ ((raise = true ∧ δ = 1) ∨ (raise = false ∧ δ = -1)) := ⟨_, rfl, by cases raise <;> simp⟩
    have hδ1 : -1 ≤ δ ∧ δ ≤ 1 := by rcases dr with ⟨_, h⟩ | ⟨_, h⟩ <;> omega
    have HΔ := Lib.hid hδ
    have HDR := Lib.hid dr
    have hd1 := hδ1.1
    have hd2 := hδ1.2
    have hOW := OnWay.start (d := δ) ha hb hM hX hL
    obtain ⟨br, cap, hv, r1, r2, r3, c3, c4, f4, hcap, hset⟩ := HO1.out.cell_ ha hb
    have hxr := fit_own ha hb h4 w4 hF hX
    have hset' := hset (X a b + δ)
    obtain ⟨x, hxx⟩ : ∃ x, X a b = x := ⟨_, rfl⟩
    rw [hxx] at c4 hset' hOW hxr
    have hx0 := hxr.1
    have hx1 := hxr.2
    have HO2 := Lib.hid (hset'.below (below_drewN (Below.refl _ _) 1))
    have HT2 : Hid (Turns lo hi w1 ((w1.setCell ⟨br, b, none⟩ (.int .i64 (x + δ))).drewN 1)) := Lib.hid (((Turns.refl lo hi w1).setCell (p := ⟨br, b, none⟩) r1 r2 _).drewN 1)
    have HXX := Lib.hid hxx
    have HOW := Lib.hid hOW
    have HL := Lib.hid hL
    have a1 : (a : Int) < (h : Int) := by omega
    have b1 : (b : Int) < (wd : Int) := by omega
    clear hset hset' hxx hOW hL hv hxr hδ1 hδ dr hcap
    rcases HDR.out with ⟨rfl, rfl⟩ | ⟨rfl, rfl⟩
    · skip
      go_wp2_with fail
      go_still_tail 15, hmx
      go_wp2_with fail
      go_loopw [12] (fun v wr => ∃ (t p : Nat) (Z : Nat → Nat → Int), v = .int .i64 p ∧ Hid (L[t]? = some p) ∧ Hid (OnWay h wd F M a b L X 1 t Z) ∧ Hid (OwnT IntV 3 lo hi wr g vs (mkT h wd Z)) ∧ Hid (Turns lo hi w1 wr)) (fun v _ => L.length - L.idxOf (intOf v).toNat)
      case atStart => exact ⟨0, s, _, rfl, Lib.hid (by rw [HL.out.first, HSE.out]), HOW, HO2, HT2⟩
      case round =>
        clear HOW HO2 HT2 c3 c4 f4
        obtain ⟨t, p, Z, rfl, HPt, HOW, HOZ, HTZ⟩ := hrel
        obtain ⟨wo, rfl⟩ : ∃ wo : World, wo = wr := ⟨_, rfl⟩
        by_cases hpa : p = a
        · have e1 : ((p : Int) != (a : Int)) = false := by simp; omega
          have HPA := Lib.hid hpa
          clear hpa
          go_wp2_with fail
          go_ret
          have hdone := HOW.out.done ha (by rw [HPt.out, HPA.out])
          exact ⟨HT1.out.trans HTZ.out, .inr ⟨rfl, Z, HOZ.out, hdone, HOW.out.ab⟩⟩
        · have e1 : ((p : Int) != (a : Int)) = true := by simp; omega
          have htl := (List.getElem?_eq_some_iff.1 HPt.out).1
          have htn : t + 1 < L.length := by
            have hlast := HL.out.last
            have : t ≠ L.length - 1 := fun e => by
              have h1 := HPt.out
              rw [e, hlast] at h1
              injection h1 with h1
              exact hpa h1.symm
            omega
          obtain ⟨u, hu1⟩ : ∃ u, L[t + 1]? = some u := ⟨_, List.getElem?_eq_getElem htn⟩
          have hstep := HL.out.step t p u HPt.out hu1
          have hpn : p < n := by rw [HNE.out]; exact HL.out.lt p (List.mem_of_getElem? HPt.out)
          have hpr2 := own_keep HPR.out fun b hb => by
            have h1 := (HPR.out.lt b hb)
            exact HTZ.out.block b h1.2 (.inr (by omega))
          obtain ⟨pb', hpe, -, hpb3, cpp, -, -⟩ := own_mk hpr2 hpn
          obtain rfl : pb = pb' := by injection hpe with hpe; injection hpe
          rw [hstep.2.1] at cpp
          have p1 : (p : Int) < (n : Int) := by omega
          have hcs := Edge.cases hstep.2.2
          clear hpr2 hpe
          have hcs2 : (∃ l, u < h ∧ p = h + l ∧ l < wd) ∨ (∃ l, p < h ∧ u = h + l ∧ l < wd) := hcs
          clear hcs
          rcases hcs2 with hcase | hcase
          · obtain ⟨l, hk, hpl, hl⟩ := hcase
            have hE := hstep.2.2
            rw [hpl] at hE
            have hedge := Edge.col hk hE
            have hx0 := hX.nn u l hk hl hedge.2.2.1
            have hx1 := fit_le ha hb h4 w4 hF hX hk hl hedge.2.2.1
            have hbd := HOW.out.bd u l
            have hsame := HOW.out.same t u l (Nat.le_refl _) (.inl ⟨by rw [← hpl]; exact HPt.out, hu1⟩) hk
            obtain ⟨br', cap', hv', r1', r2', r3', c3', c4', f4', -, hset'⟩ := HOZ.out.cell_ hk hl
            obtain ⟨z, hz⟩ : ∃ z, Z u l = z := ⟨_, rfl⟩
            have hOW2 := HOW.out.toRow HL.out (by rw [← hpl]; exact HPt.out) (hu1) hk (by have := hedge.2.2.2 rfl; omega)
            rw [hz] at c4' hbd hOW2 hsame
            have hset2 := hset' (z - 1)
            rw [show z - 1 = z - 1 by omega] at hOW2
            have z0 : 0 ≤ z := by omega
            have z1 : z ≤ 400 := by omega
            have HOW2 := Lib.hid hOW2
            have HO2 := Lib.hid (hset2.below (below_drewN (Below.refl _ _) 1))
            have HT2 : Hid (Turns lo hi w1 ((wo.setCell ⟨br', l, none⟩ (.int .i64 (z - 1))).drewN 1)) := Lib.hid ((HTZ.out.setCell (p := ⟨br', l, none⟩) r1' r2' _).drewN 1)
            have HCELL := Lib.hid (l13Cell_any h u p u l wo (.inl ⟨rfl, hpl⟩) hk (by omega) (by omega))
            have d1 : decide ((u : Int) < (h : Int)) = true := decide_eq_true (by omega)
            have d2 : u < h := by omega
            have k1 : (u : Int) < (h : Int) := by omega
            have l1 : (l : Int) < (wd : Int) := by omega
            have n1 : br' ≠ pb := by omega
            have n2 : pb ≠ br' := by omega
            have HU1 := Lib.hid hu1
            have hmeas : L.length - L.idxOf u < L.length - L.idxOf p := by
              rw [idx_at HL.out.nd HPt.out, idx_at HL.out.nd hu1]; omega
            clear hE hedge hx0 hx1 hbd hsame hset' hset2 hOW2 hz hstep hu1 hpl hv'
            go_wp2_with fail
            refine HCELL.out.mono ?_
            rintro e w' ⟨rfl, rfl⟩
            go_wp2_with fail
            go_still_tail 15, hmx
            go_wp2_with fail
            go_roundw
            case rel => exact ⟨t + 1, u, _, rfl, HU1, HOW2, HO2, HT2⟩
            case measure => simpa [intOf] using hmeas
          · obtain ⟨l, hk, hpl, hl⟩ := hcase
            have hE := hstep.2.2
            rw [hpl] at hE
            have hedge := Edge.row hk hE
            have hx0 := hX.nn p l hk hl hedge.2.2.1
            have hx1 := fit_le ha hb h4 w4 hF hX hk hl hedge.2.2.1
            have hbd := HOW.out.bd p l
            have hsame := HOW.out.same t p l (Nat.le_refl _) (.inr ⟨HPt.out, by rw [← hpl]; exact hu1⟩) hk
            obtain ⟨br', cap', hv', r1', r2', r3', c3', c4', f4', -, hset'⟩ := HOZ.out.cell_ hk hl
            obtain ⟨z, hz⟩ : ∃ z, Z p l = z := ⟨_, rfl⟩
            have hOW2 := HOW.out.toCol HL.out (HPt.out) (by rw [← hpl]; exact hu1) hk (by omega)
            rw [hz] at c4' hbd hOW2 hsame
            have hset2 := hset' (z + 1)
            rw [show z + 1 = z + 1 by omega] at hOW2
            have z0 : 0 ≤ z := by omega
            have z1 : z ≤ 400 := by omega
            have HOW2 := Lib.hid hOW2
            have HO2 := Lib.hid (hset2.below (below_drewN (Below.refl _ _) 1))
            have HT2 : Hid (Turns lo hi w1 ((wo.setCell ⟨br', l, none⟩ (.int .i64 (z + 1))).drewN 1)) := Lib.hid ((HTZ.out.setCell (p := ⟨br', l, none⟩) r1' r2' _).drewN 1)
            have HCELL := Lib.hid (l13Cell_any h u p p l wo (.inr ⟨hpl, rfl⟩) hk (by omega) (by omega))
            have d1 : decide ((u : Int) < (h : Int)) = false := decide_eq_false (by omega)
            have d2 : ¬ u < h := by omega
            have k1 : (p : Int) < (h : Int) := by omega
            have l1 : (l : Int) < (wd : Int) := by omega
            have n1 : br' ≠ pb := by omega
            have n2 : pb ≠ br' := by omega
            have HU1 := Lib.hid hu1
            have hmeas : L.length - L.idxOf u < L.length - L.idxOf p := by
              rw [idx_at HL.out.nd HPt.out, idx_at HL.out.nd hu1]; omega
            clear hE hedge hx0 hx1 hbd hsame hset' hset2 hOW2 hz hstep hu1 hpl hv'
            go_wp2_with fail
            refine HCELL.out.mono ?_
            rintro e w' ⟨rfl, rfl⟩
            go_wp2_with fail
            go_still_tail 15, hmx
            go_wp2_with fail
            go_roundw
            case rel => exact ⟨t + 1, u, _, rfl, HU1, HOW2, HO2, HT2⟩
            case measure => simpa [intOf] using hmeas
    · skip
      go_wp2_with fail
      go_still_tail 15, hmx
      go_wp2_with fail
      go_loopw [12] (fun v wr => ∃ (t p : Nat) (Z : Nat → Nat → Int), v = .int .i64 p ∧ Hid (L[t]? = some p) ∧ Hid (OnWay h wd F M a b L X (-1) t Z) ∧ Hid (OwnT IntV 3 lo hi wr g vs (mkT h wd Z)) ∧ Hid (Turns lo hi w1 wr)) (fun v _ => L.length - L.idxOf (intOf v).toNat)
      case atStart => exact ⟨0, s, _, rfl, Lib.hid (by rw [HL.out.first, HSE.out]), HOW, HO2, HT2⟩
      case round =>
        clear HOW HO2 HT2 c3 c4 f4
        obtain ⟨t, p, Z, rfl, HPt, HOW, HOZ, HTZ⟩ := hrel
        obtain ⟨wo, rfl⟩ : ∃ wo : World, wo = wr := ⟨_, rfl⟩
        by_cases hpa : p = a
        · have e1 : ((p : Int) != (a : Int)) = false := by simp; omega
          have HPA := Lib.hid hpa
          clear hpa
          go_wp2_with fail
          go_ret
          have hdone := HOW.out.done ha (by rw [HPt.out, HPA.out])
          exact ⟨HT1.out.trans HTZ.out, .inr ⟨rfl, Z, HOZ.out, hdone, HOW.out.ab⟩⟩
        · have e1 : ((p : Int) != (a : Int)) = true := by simp; omega
          have htl := (List.getElem?_eq_some_iff.1 HPt.out).1
          have htn : t + 1 < L.length := by
            have hlast := HL.out.last
            have : t ≠ L.length - 1 := fun e => by
              have h1 := HPt.out
              rw [e, hlast] at h1
              injection h1 with h1
              exact hpa h1.symm
            omega
          obtain ⟨u, hu1⟩ : ∃ u, L[t + 1]? = some u := ⟨_, List.getElem?_eq_getElem htn⟩
          have hstep := HL.out.step t p u HPt.out hu1
          have hpn : p < n := by rw [HNE.out]; exact HL.out.lt p (List.mem_of_getElem? HPt.out)
          have hpr2 := own_keep HPR.out fun b hb => by
            have h1 := (HPR.out.lt b hb)
            exact HTZ.out.block b h1.2 (.inr (by omega))
          obtain ⟨pb', hpe, -, hpb3, cpp, -, -⟩ := own_mk hpr2 hpn
          obtain rfl : pb = pb' := by injection hpe with hpe; injection hpe
          rw [hstep.2.1] at cpp
          have p1 : (p : Int) < (n : Int) := by omega
          have hcs := Edge.cases hstep.2.2
          clear hpr2 hpe
          have hcs2 : (∃ l, u < h ∧ p = h + l ∧ l < wd) ∨ (∃ l, p < h ∧ u = h + l ∧ l < wd) := hcs
          clear hcs
          rcases hcs2 with hcase | hcase
          · obtain ⟨l, hk, hpl, hl⟩ := hcase
            have hE := hstep.2.2
            rw [hpl] at hE
            have hedge := Edge.col hk hE
            have hx0 := hX.nn u l hk hl hedge.2.2.1
            have hx1 := fit_le ha hb h4 w4 hF hX hk hl hedge.2.2.1
            have hbd := HOW.out.bd u l
            have hsame := HOW.out.same t u l (Nat.le_refl _) (.inl ⟨by rw [← hpl]; exact HPt.out, hu1⟩) hk
            obtain ⟨br', cap', hv', r1', r2', r3', c3', c4', f4', -, hset'⟩ := HOZ.out.cell_ hk hl
            obtain ⟨z, hz⟩ : ∃ z, Z u l = z := ⟨_, rfl⟩
            have hOW2 := HOW.out.toRow HL.out (by rw [← hpl]; exact HPt.out) (hu1) hk (by omega)
            rw [hz] at c4' hbd hOW2 hsame
            have hset2 := hset' (z + 1)
            rw [show z - -1 = z + 1 by omega] at hOW2
            have z0 : 0 ≤ z := by omega
            have z1 : z ≤ 400 := by omega
            have HOW2 := Lib.hid hOW2
            have HO2 := Lib.hid (hset2.below (below_drewN (Below.refl _ _) 1))
            have HT2 : Hid (Turns lo hi w1 ((wo.setCell ⟨br', l, none⟩ (.int .i64 (z + 1))).drewN 1)) := Lib.hid ((HTZ.out.setCell (p := ⟨br', l, none⟩) r1' r2' _).drewN 1)
            have HCELL := Lib.hid (l13Cell_any h u p u l wo (.inl ⟨rfl, hpl⟩) hk (by omega) (by omega))
            have d1 : decide ((u : Int) < (h : Int)) = true := decide_eq_true (by omega)
            have d2 : u < h := by omega
            have k1 : (u : Int) < (h : Int) := by omega
            have l1 : (l : Int) < (wd : Int) := by omega
            have n1 : br' ≠ pb := by omega
            have n2 : pb ≠ br' := by omega
            have HU1 := Lib.hid hu1
            have hmeas : L.length - L.idxOf u < L.length - L.idxOf p := by
              rw [idx_at HL.out.nd HPt.out, idx_at HL.out.nd hu1]; omega
            clear hE hedge hx0 hx1 hbd hsame hset' hset2 hOW2 hz hstep hu1 hpl hv'
            go_wp2_with fail
            refine HCELL.out.mono ?_
            rintro e w' ⟨rfl, rfl⟩
            go_wp2_with fail
            go_still_tail 15, hmx
            go_wp2_with fail
            go_roundw
            case rel => exact ⟨t + 1, u, _, rfl, HU1, HOW2, HO2, HT2⟩
            case measure => simpa [intOf] using hmeas
          · obtain ⟨l, hk, hpl, hl⟩ := hcase
            have hE := hstep.2.2
            rw [hpl] at hE
            have hedge := Edge.row hk hE
            have hx0 := hX.nn p l hk hl hedge.2.2.1
            have hx1 := fit_le ha hb h4 w4 hF hX hk hl hedge.2.2.1
            have hbd := HOW.out.bd p l
            have hsame := HOW.out.same t p l (Nat.le_refl _) (.inr ⟨HPt.out, by rw [← hpl]; exact hu1⟩) hk
            obtain ⟨br', cap', hv', r1', r2', r3', c3', c4', f4', -, hset'⟩ := HOZ.out.cell_ hk hl
            obtain ⟨z, hz⟩ : ∃ z, Z p l = z := ⟨_, rfl⟩
            have hOW2 := HOW.out.toCol HL.out (HPt.out) (by rw [← hpl]; exact hu1) hk (by have := hedge.2.2.2 rfl; omega)
            rw [hz] at c4' hbd hOW2 hsame
            have hset2 := hset' (z - 1)
            rw [show z + -1 = z - 1 by omega] at hOW2
            have z0 : 0 ≤ z := by omega
            have z1 : z ≤ 400 := by omega
            have HOW2 := Lib.hid hOW2
            have HO2 := Lib.hid (hset2.below (below_drewN (Below.refl _ _) 1))
            have HT2 : Hid (Turns lo hi w1 ((wo.setCell ⟨br', l, none⟩ (.int .i64 (z - 1))).drewN 1)) := Lib.hid ((HTZ.out.setCell (p := ⟨br', l, none⟩) r1' r2' _).drewN 1)
            have HCELL := Lib.hid (l13Cell_any h u p p l wo (.inr ⟨hpl, rfl⟩) hk (by omega) (by omega))
            have d1 : decide ((u : Int) < (h : Int)) = false := decide_eq_false (by omega)
            have d2 : ¬ u < h := by omega
            have k1 : (p : Int) < (h : Int) := by omega
            have l1 : (l : Int) < (wd : Int) := by omega
            have n1 : br' ≠ pb := by omega
            have n2 : pb ≠ br' := by omega
            have HU1 := Lib.hid hu1
            have hmeas : L.length - L.idxOf u < L.length - L.idxOf p := by
              rw [idx_at HL.out.nd HPt.out, idx_at HL.out.nd hu1]; omega
            clear hE hedge hx0 hx1 hbd hsame hset' hset2 hOW2 hz hstep hu1 hpl hv'
            go_wp2_with fail
            refine HCELL.out.mono ?_
            rintro e w' ⟨rfl, rfl⟩
            go_wp2_with fail
            go_still_tail 15, hmx
            go_wp2_with fail
            go_roundw
            case rel => exact ⟨t + 1, u, _, rfl, HU1, HOW2, HO2, HT2⟩
            case measure => simpa [intOf] using hmeas
end Go.Proofs.Ytncnghmadeghlaa
