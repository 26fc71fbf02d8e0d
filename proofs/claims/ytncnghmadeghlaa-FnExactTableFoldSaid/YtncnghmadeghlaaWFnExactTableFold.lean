/- The walk of the law FnExactTableFold: for every input it returns true and leaves old memory alone. -/
import Derived.Test.YtncnghmadeghlaaFoldI
import Derived.Test.YtncnghmadeghlaaFoldS
import Derived.Test.YtncnghmadeghlaaToIntSS
import Derived.Test.YtncnghmadeghlaaSzInt
import Derived.Test.YtncnghmadeghlaaMarkSS
namespace Go.Proofs.Ytncnghmadeghlaa.fnExactTableFold
open Go.RowKit
set_option linter.unusedVariables false

set_option maxHeartbeats 2000000 in
theorem walk (A : Option Addr) (c : Nat) (t : List (List Int)) (a : Int) (b : Int) (w : World) (hx : Tab IntV w A t) (hl : t.length ≤ maxLen) (hc : t.length ≤ c) (hcm : c ≤ maxLen) (hw : ∀ r ∈ t, ∀ n ∈ r, (Lit.int .i64 n).wf = true) (hwa : (Lit.int .i64 a).wf = true) (hwb : (Lit.int .i64 b).wf = true) :
    Calls Try.prog 4 #[.slice A t.length c, .int .i64 a, .int .i64 b] w (Yes w) := by
  clear hw
  by_cases h1 : szT t 1048576 < 0
  · go_enter Try.func4, Try.ntmps4
    go_wp2_with fail
    refine (szIntSS_any A c t 1048576 _ hx hl (by omega) (by omega)).mono ?_
    rintro e w' ⟨rfl, rfl⟩
    go_wp2_with fail
    go_ret
    exact ⟨rfl, Below.refl _ _⟩
  have f := szT_fit (by omega) h1
  have f1 := f.1
  have HT : Hid (∀ r ∈ t, r.length ≤ 1048576) := Lib.hid fun r hr => by have := f.2.1 r hr; omega
  clear f
  have ht : t.length ≤ 1048576 := by omega
  obtain ⟨R, eR⟩ : ∃ R, R = foldT t a b := ⟨_, rfl⟩
  obtain ⟨ok, eok⟩ : ∃ bb, bb = foldOk t a b := ⟨_, rfl⟩
  have hRl : R.length ≤ 1048576 := by rw [eR]; exact (fold_lens t a b).1
  have HRR : Hid (∀ r ∈ R, r.length ≤ 1048576) := Lib.hid (by rw [eR]; exact (fold_lens t a b).2)
  have HRM : Hid (R.length ≤ maxLen) := Lib.hid (by unfold maxLen; omega)
  have HI : Hid (∀ A c w, Tab IntV w A t → t.length ≤ c ∧ c ≤ maxLen → Calls Try.prog 27 #[.slice A t.length c, .int .i64 a, .int .i64 b] w (GotT IntV 3 w R ok)) := Lib.hid fun A c w h hcc => by rw [eR, eok]; exact implFold_any A c t a b w h hl
  have HS : Hid (∀ A c w, Tab IntV w A t → t.length ≤ c ∧ c ≤ maxLen → Calls Try.prog 25 #[.slice A t.length c, .int .i64 a, .int .i64 b] w (SeeT IntV w R ok)) := Lib.hid fun A c w h hcc => by rw [eR, eok]; exact specFold_any A c t a b w h hl
  clear eR eok
  have eRR := eqT_same R
  have et := eqT_same t
  have nk : decide (numE t 1 < 0) = false := decide_eq_false (by have := numE_ge t 1; omega)
  have nR : decide (numE R 1 < 0) = false := decide_eq_false (by have := numE_ge R 1; omega)
  have okk : (ok != ok) = false := by simp
  have nRR : (numE R 1 != numE R 1) = false := by simp
  go_enter Try.func4, Try.ntmps4
  go_wp2_with fail
  refine (szIntSS_any A c t 1048576 _ hx hl (by omega) (by omega)).mono ?_
  rintro e w' ⟨rfl, rfl⟩
  go_wp2_with fail
  refine (toIntSS_any A c t _ hx ht HT.out).mono ?_
  rintro e w1 ⟨gA1, cA1, vA1, rfl, hA1, oA1, hb1⟩
  go_wp2_with fail
  refine (HS.out _ cA1 _ oA1.tab hA1).mono ?_
  rintro e w2 ⟨As, cs, rfl, -, ls, hb2⟩
  have h2 := hb1.trans (hb2.mono hb1.size)
  have HLS := Lib.hid ls
  clear oA1 ls
  go_wp2_with fail
  refine (toIntSS_any A c t _ (hx.below h2) ht HT.out).mono ?_
  rintro e w3 ⟨gA2, cA2, vA2, rfl, hA2, oA2, hb3⟩
  have h3 := h2.trans (hb3.mono h2.size)
  have HA3 := Lib.hid oA2
  clear oA2
  go_wp2_with fail
  refine (HI.out _ cA2 _ HA3.out.tab hA2).mono ?_
  rintro e w4 ⟨Ag, cg, rfl, hcg, og, hb4⟩
  have h4 := h3.trans (hb4.mono h3.size)
  have k4 : Below w2.heap.size w2 w4 := hb3.trans (hb4.mono hb3.size)
  have HG4 := Lib.hid og
  clear og hcg
  go_wp2_with fail
  refine (eqIntSS_any Ag As cg cs R R _ HG4.out.tab (HLS.out.below k4) HRM.out).mono ?_
  rintro e w6 ⟨rfl, q6⟩
  have h6 := h4.trans (q6.below.mono h4.size)
  have k6 := k4.trans (q6.below.mono k4.size)
  go_wp2_with fail
  refine (toIntSS_any A c t _ (hx.below h6) ht HT.out).mono ?_
  rintro e w7 ⟨gA3, cA3, vA3, rfl, hA3, oA3, hb7⟩
  have h7 := h6.trans (hb7.mono h6.size)
  have k7 := k6.trans (hb7.mono k6.size)
  have b47 : Below w4.heap.size w4 w7 := q6.below.trans (hb7.mono q6.below.size)
  have HA7 := Lib.hid ((HA3.out.below hb4).below b47)
  have HG7 := Lib.hid (HG4.out.below b47)
  clear HA3 HG4
  go_wp2_with fail
  refine (eqIntSS_any _ _ cA2 cA3 t t _ HA7.out.tab oA3.tab hl).mono ?_
  rintro e w8 ⟨rfl, hq8⟩
  have h8 := h7.trans (hq8.below.mono h7.size)
  have k8 := k7.trans (hq8.below.mono k7.size)
  have HA8 := Lib.hid (HA7.out.below hq8.below)
  have HG8 := Lib.hid (HG7.out.below hq8.below)
  clear HA7 HG7 oA3
  go_wp2_with fail
  refine (markIntSS_any _ cA2 t 1 _ _ _ (Hold.of HA8.out) ht HT.out (by omega) (by omega)).mono ?_
  rintro e w9 ⟨rfl, -, ht9⟩
  have h9 := h8.trans (ht9.below (B := w.heap.size) h2.size h8.size)
  have k9 := k8.trans (ht9.below (B := w2.heap.size) (Nat.le_refl _) k8.size)
  have HG9 := Lib.hid (HG8.out.turns ht9 (.inr (Nat.le_refl _)))
  clear HA8 HG8
  go_wp2_with fail
  refine (eqIntSS_any Ag As cg cs R R _ HG9.out.tab (HLS.out.below k9) HRM.out).mono ?_
  rintro e w11 ⟨rfl, q11⟩
  have h11 := h9.trans (q11.below.mono h9.size)
  have k11 := k9.trans (q11.below.mono k9.size)
  have HG11 := Lib.hid (HG9.out.below q11.below)
  clear HG9
  go_wp2_with fail
  refine (markIntSS_any Ag cg R 1 _ _ _ HG11.out hRl HRR.out (by omega) (by omega)).mono ?_
  rintro e w13 ⟨rfl, og, ht13⟩
  have HG13 := Lib.hid og
  have h13 := h11.trans (ht13.below (B := w.heap.size) h3.size h11.size)
  have k13 := k11.trans (ht13.below (B := w2.heap.size) hb3.size k11.size)
  have hs1 : ∀ w', Below w13.heap.size w13 w' → Tab IntV w' Ag (numT (fun x => x) R 1) := fun w' hb => HG13.out.tab.below hb
  have HS1 := Lib.hid hs1
  clear hs1 og HG11 HG13
  go_wp2_with fail
  refine (heldIntSS_any Ag cg R 1 _ (HS1.out _ (Below.refl _ _)) hRl HRR.out (by omega) (by omega)).mono ?_
  rintro e w15 ⟨rfl, q15⟩
  have b15 : Below w13.heap.size w13 w15 := q15.below
  have h15 := h13.trans (b15.mono h13.size)
  go_wp2_with fail
  refine (toIntSS_any A c t _ (hx.below h15) ht HT.out).mono ?_
  rintro e w16 ⟨gA4, cA4, vA4, rfl, hA4, oA4, hb16⟩
  go_wp2_with fail
  refine (HI.out _ cA4 _ oA4.tab hA4).mono ?_
  rintro e w17 ⟨Ah, ch, rfl, -, oh, hb17⟩
  have b17 : Below w13.heap.size w13 w17 := (b15.trans (hb16.mono b15.size)).trans (hb17.mono (Nat.le_trans b15.size hb16.size))
  have h17 := h13.trans (b17.mono h13.size)
  have k17 := k13.trans (b17.mono k13.size)
  clear oA4
  go_wp2_with fail
  refine (eqIntSS_any Ah As ch cs R R _ oh.tab (HLS.out.below k17) HRM.out).mono ?_
  rintro e w19 ⟨rfl, q19⟩
  have b19 : Below w13.heap.size w13 w19 := b17.trans (q19.below.mono b17.size)
  clear oh
  go_wp2_with fail
  refine (heldIntSS_any Ag cg R 1 _ (HS1.out _ b19) hRl HRR.out (by omega) (by omega)).mono ?_
  rintro e w21 ⟨rfl, q21⟩
  have b21 : Below w13.heap.size w13 w21 := b19.trans (q21.below.mono b19.size)
  go_wp2_with fail
  go_ret
  exact ⟨rfl, h13.trans (b21.mono h13.size)⟩
end Go.Proofs.Ytncnghmadeghlaa.fnExactTableFold
