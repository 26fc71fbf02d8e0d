/- The walk of the law FnExactTableOf: for every input it returns true and leaves old memory alone. -/
import Derived.Test.YtncnghmadeghlaaTofI
import Derived.Test.YtncnghmadeghlaaTofS
import Derived.Test.YtncnghmadeghlaaPerY
import Derived.Test.YtncnghmadeghlaaToIntSS
import Derived.Test.YtncnghmadeghlaaSzInt
import Derived.Test.YtncnghmadeghlaaMarkSS
namespace Go.Proofs.Ytncnghmadeghlaa.fnExactTableOf
open Go.RowKit
set_option linter.unusedVariables false
theorem tof_lens (ps : List Per) : (tofT ps).length ≤ 1048576 ∧ ∀ r ∈ tofT ps, r.length ≤ 1048576 := by
  unfold tofT
  split
  · exact ⟨by rw [mkT_len]; omega, fun r hr => by obtain ⟨i, hi, rfl⟩ := mkT_mem.1 hr; rw [mkL_len]; omega⟩
  · exact ⟨by simp, fun r hr => by cases hr⟩
/-- a copy of the persons in new memory -/
def CopP (w : World) (ps : List Per) (e : Ending) (w' : World) : Prop :=
  e = .returned (.slice (some ⟨w.heap.size, 0, none⟩) ps.length ps.length) ∧ (∃ F, w'.rowIs w.heap.size TP (ps.length * 4) (cellP F)) ∧ SeqP w' (some ⟨w.heap.size, 0, none⟩) ps ∧ Below w.heap.size w w'
theorem cop_any (A : Option Addr) (c : Nat) (ps : List Per) (w : World) (hx : SeqP w A ps) (hl : ps.length ≤ 1048576) :
    Calls Try.prog 17 #[.slice A ps.length c] w (CopP w ps) := by
  refine (toPersonS_any A c ps w hx hl).mono ?_
  rintro e w' ⟨rfl, hr, hb⟩
  have hs := row_seq hr
  rw [mkL_own] at hs
  exact ⟨rfl, ⟨_, hr⟩, hs, hb⟩
set_option maxHeartbeats 2000000 in
theorem walk (A : Option Addr) (c : Nat) (t : List Per) (w : World) (hx : SeqP w A t) (hl : t.length ≤ maxLen) :
    Calls Try.prog 3 #[.slice A t.length c] w (Yes w) := by
  by_cases h1 : t.length ≤ 1048576
  case neg =>
    have hz := szPersonS_any A c t.length 1048576 w hl (by omega)
    rw [if_neg h1] at hz
    have HZ := Lib.hid hz
    clear hz
    go_enter Try.func3, Try.ntmps3
    go_wp2_with fail
    refine HZ.out.mono ?_
    rintro e w' ⟨rfl, rfl⟩
    go_wp2_with fail
    go_ret
    exact ⟨rfl, Below.refl _ _⟩
  have ht := h1
  have hz := szPersonS_any A c t.length 1048576 w hl (by omega)
  rw [if_pos h1] at hz
  have HZ := Lib.hid hz
  clear hz
  have hz0 : decide (((1048576 - t.length : Nat) : Int) < 0) = false := decide_eq_false (by omega)
  obtain ⟨R, eR⟩ : ∃ R, R = tofT t := ⟨_, rfl⟩
  obtain ⟨ok, eok⟩ : ∃ bb, bb = peoOk t := ⟨_, rfl⟩
  have hRl : R.length ≤ 1048576 := by rw [eR]; exact (tof_lens t).1
  have HRR : Hid (∀ r ∈ R, r.length ≤ 1048576) := Lib.hid (by rw [eR]; exact (tof_lens t).2)
  have HRM : Hid (R.length ≤ maxLen) := Lib.hid (by unfold maxLen; omega)
  have HI : Hid (∀ A c w, SeqP w A t → Calls Try.prog 18 #[.slice A t.length c] w (GotT IntV 3 w R ok)) := Lib.hid fun A c w h => by rw [eR, eok]; exact implTableOf_any A c t w h ht
  have HS : Hid (∀ A c w, SeqP w A t → Calls Try.prog 16 #[.slice A t.length c] w (SeeT IntV w R ok)) := Lib.hid fun A c w h => by rw [eR, eok]; exact specTableOf_any A c t w h ht
  clear eR eok
  have eRR := eqT_same R
  have nk : decide (((1 + t.length * 4 : Nat) : Int) < 0) = false := decide_eq_false (by omega)
  have nR : decide (numE R 1 < 0) = false := decide_eq_false (by have := numE_ge R 1; omega)
  have okk : (ok != ok) = false := by simp
  have nRR : (numE R 1 != numE R 1) = false := by simp
  go_enter Try.func3, Try.ntmps3
  go_wp2_with fail
  refine HZ.out.mono ?_
  rintro e w' ⟨rfl, rfl⟩
  go_wp2_with fail
  refine (cop_any A c t _ hx ht).mono ?_
  rintro e w1 ⟨rfl, rA1, oA1, hb1⟩
  go_wp2_with fail
  refine (HS.out _ _ _ oA1).mono ?_
  rintro e w2 ⟨As, cs, rfl, -, ls, hb2⟩
  have h2 := hb1.trans (hb2.mono hb1.size)
  have HLS := Lib.hid ls
  clear oA1 ls rA1
  go_wp2_with fail
  refine (cop_any A c t _ (hx.below h2) ht).mono ?_
  rintro e w3 ⟨rfl, rA2, oA2, hb3⟩
  have h3 := h2.trans (hb3.mono h2.size)
  have HA3 := Lib.hid oA2
  obtain ⟨FA, rA2⟩ := rA2
  have HRA3 := Lib.hid rA2
  obtain ⟨g2, hg2⟩ : ∃ g, w2.heap.size = g := ⟨_, rfl⟩
  rw [hg2] at HA3 HRA3 ⊢
  have HG2 := Lib.hid hg2
  have hgl := rA2.lt
  clear oA2 rA2 hg2
  go_wp2_with fail
  refine (HI.out _ _ _ HA3.out).mono ?_
  rintro e w4 ⟨Ag, cg, rfl, hcg, og, hb4⟩
  have h4 := h3.trans (hb4.mono h3.size)
  have k4 : Below w2.heap.size w2 w4 := hb3.trans (hb4.mono hb3.size)
  have HG4 := Lib.hid og
  clear og hcg
  go_wp2_with fail
  refine (eqIntSS_any Ag As cg cs R R _ HG4.out.tab (HLS.out.below k4) HRM.out).mono ?_
  rintro e w6 ⟨rfl, q6⟩
  have h6 := h4.trans (q6.below.mono h4.size)
  have k6 := k4.trans (q6.below.mono k4.size)
  go_wp2_with fail
  refine (cop_any A c t _ (hx.below h6) ht).mono ?_
  rintro e w7 ⟨rfl, rA3, oA3, hb7⟩
  have h7 := h6.trans (hb7.mono h6.size)
  have k7 := k6.trans (hb7.mono k6.size)
  have b47 : Below w4.heap.size w4 w7 := q6.below.trans (hb7.mono q6.below.size)
  have HA7 := Lib.hid ((HA3.out.below hb4).below b47)
  have hgl4 : g2 < w4.heap.size := by have := hb4.size; have := HG2.out; omega
  have HRA7 := Lib.hid ((HRA3.out.of_block (hb4.block g2 (by have := HG2.out; omega))).of_block (b47.block g2 hgl4))
  have HG7 := Lib.hid (HG4.out.below b47)
  clear HA3 HG4 HRA3
  go_wp2_with fail
  refine (eqPersonS_same _ _ _ _ t _ HA7.out oA3 ht).mono ?_
  rintro e w8 ⟨rfl, hq8⟩
  have h8 := h7.trans (hq8.mono h7.size)
  have k8 := k7.trans (hq8.mono k7.size)
  have hgl7 : g2 < w7.heap.size := by have := b47.size; omega
  have HA8 := Lib.hid (HRA7.out.of_block (hq8.block g2 hgl7))
  have HG8 := Lib.hid (HG7.out.below hq8)
  clear HA7 HG7 oA3 HRA7 rA3
  go_wp2_with fail
  refine (markPersonS_any g2 t.length 1 _ _ HA8.out ht (by omega)).mono ?_
  rintro e w9 ⟨rfl, -, ht9⟩
  have h9 := h8.trans (ht9.below (B := w.heap.size) (by have := HG2.out; have := h2.size; omega) h8.size)
  have k9 := k8.trans (ht9.below (B := w2.heap.size) (by have := HG2.out; omega) k8.size)
  have HG9 := Lib.hid (HG8.out.turns ht9 (.inr (by have := HG2.out; omega)))
  clear HA8 HG8
  go_wp2_with fail
  refine (eqIntSS_any Ag As cg cs R R _ HG9.out.tab (HLS.out.below k9) HRM.out).mono ?_
  rintro e w11 ⟨rfl, q11⟩
  have h11 := h9.trans (q11.below.mono h9.size)
  have k11 := k9.trans (q11.below.mono k9.size)
  have HG11 := Lib.hid (HG9.out.below q11.below)
  clear HG9
  go_wp2_with fail
  refine (markIntSS_any Ag cg R 1 _ _ _ HG11.out hRl HRR.out (by omega) (by omega)).mono ?_
  rintro e w13 ⟨rfl, og, ht13⟩
  have HG13 := Lib.hid og
  have h13 := h11.trans (ht13.below (B := w.heap.size) h3.size h11.size)
  have k13 := k11.trans (ht13.below (B := w2.heap.size) hb3.size k11.size)
  have hs1 : ∀ w', Below w13.heap.size w13 w' → Tab IntV w' Ag (numT (fun x => x) R 1) := fun w' hb => HG13.out.tab.below hb
  have HS1 := Lib.hid hs1
  clear hs1 og HG11 HG13
  go_wp2_with fail
  refine (heldIntSS_any Ag cg R 1 _ (HS1.out _ (Below.refl _ _)) hRl HRR.out (by omega) (by omega)).mono ?_
  rintro e w15 ⟨rfl, q15⟩
  have b15 : Below w13.heap.size w13 w15 := q15.below
  have h15 := h13.trans (b15.mono h13.size)
  go_wp2_with fail
  refine (cop_any A c t _ (hx.below h15) ht).mono ?_
  rintro e w16 ⟨rfl, rA4, oA4, hb16⟩
  go_wp2_with fail
  refine (HI.out _ _ _ oA4).mono ?_
  rintro e w17 ⟨Ah, ch, rfl, -, oh, hb17⟩
  have b17 : Below w13.heap.size w13 w17 := (b15.trans (hb16.mono b15.size)).trans (hb17.mono (Nat.le_trans b15.size hb16.size))
  have h17 := h13.trans (b17.mono h13.size)
  have k17 := k13.trans (b17.mono k13.size)
  clear oA4 rA4
  go_wp2_with fail
  refine (eqIntSS_any Ah As ch cs R R _ oh.tab (HLS.out.below k17) HRM.out).mono ?_
  rintro e w19 ⟨rfl, q19⟩
  have b19 : Below w13.heap.size w13 w19 := b17.trans (q19.below.mono b17.size)
  clear oh
  go_wp2_with fail
  refine (heldIntSS_any Ag cg R 1 _ (HS1.out _ b19) hRl HRR.out (by omega) (by omega)).mono ?_
  rintro e w21 ⟨rfl, q21⟩
  have b21 : Below w13.heap.size w13 w21 := b19.trans (q21.below.mono b19.size)
  go_wp2_with fail
  go_ret
  exact ⟨rfl, h13.trans (b21.mono h13.size)⟩
end Go.Proofs.Ytncnghmadeghlaa.fnExactTableOf
