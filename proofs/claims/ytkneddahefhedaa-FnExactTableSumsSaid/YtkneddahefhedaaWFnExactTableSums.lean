/- The walk of the law FnExactTableSums: for every table it returns true and leaves old memory alone. -/
import Derived.Test.YtkneddahefhedaaSumsA
import Derived.Test.YtkneddahefhedaaToIntSS
import Derived.Test.YtkneddahefhedaaSzInt
import Derived.Test.YtkneddahefhedaaMarkSS
namespace Go.Proofs.Ytkneddahefhedaa.fnExactTableSums
open Go.RowKit
set_option linter.unusedVariables false
theorem own_turns {w w' : World} {base lo hi : Nat} {e : TypeId} {v : Value} {n : Nat} {xs : List Value} (h : w.ownsRow base e 1 v n xs) (ht : Turns lo hi w w') (hb : hi ≤ base) : w'.ownsRow base e 1 v n xs :=
  own_keep h fun b hb' => ht.block b (h.lt b hb').2 (.inr (by have := (h.lt b hb').1; omega))
set_option maxHeartbeats 2000000 in
theorem walk (A : Option Addr) (c : Nat) (t : List (List Int)) (w : World) (hx : Tab IntV w A t) (hl : t.length ≤ maxLen) (hc : t.length ≤ c) (hcm : c ≤ maxLen) (hw : ∀ r ∈ t, ∀ n ∈ r, (Lit.int .i64 n).wf = true) :
    Calls Try.prog 6 #[.slice A t.length c] w (Yes w) := by
  clear hw
  by_cases h1 : szT t 1048576 < 0
  · go_enter Try.func6, Try.ntmps6
    go_wp2_with fail
    refine (szIntSS_any A c t 1048576 _ hx hl (by omega) (by omega)).mono ?_
    rintro e w' ⟨rfl, rfl⟩
    go_wp2_with fail
    go_ret
    exact ⟨rfl, Below.refl _ _⟩
  have f := szT_fit (by omega) h1
  have f1 := f.1
  have HT : Hid (∀ r ∈ t, r.length ≤ 1048576) := Lib.hid fun r hr => by have := f.2.1 r hr; omega
  clear f
  have ht : t.length ≤ 1048576 := by omega
  obtain ⟨xs, exs⟩ : ∃ xs, xs = rowsT t := ⟨_, rfl⟩
  obtain ⟨ys, eys⟩ : ∃ ys, ys = colsT t := ⟨_, rfl⟩
  have hxl : xs.length ≤ 4 := by rw [exs]; exact rowsT_len t
  have hyl : ys.length ≤ 4 := by rw [eys]; exact colsT_len t
  have HXM : Hid (xs.length ≤ maxLen) := Lib.hid (by unfold maxLen; omega)
  have HYM : Hid (ys.length ≤ maxLen) := Lib.hid (by unfold maxLen; omega)
  have HI : Hid (∀ A c w, Tab IntV w A t → Calls Try.prog 30 #[.slice A t.length c] w (GotLL IntV 3 w xs ys (tabValid t))) := Lib.hid fun A c w h => by rw [exs, eys]; exact implSums_any A c t w h hl
  have HS : Hid (∀ A c w, Tab IntV w A t → Calls Try.prog 29 #[.slice A t.length c] w (SeeLL w xs ys (tabValid t))) := Lib.hid fun A c w h => by rw [exs, eys]; exact specSums_any A c t w h hl
  clear exs eys
  have ex := eqInts_same xs
  have ey := eqInts_same ys
  have et := eqT_same t
  have nk : decide (numE t 1 < 0) = false := decide_eq_false (by have := numE_ge t 1; omega)
  go_enter Try.func6, Try.ntmps6
  go_wp2_with fail
  refine (szIntSS_any A c t 1048576 _ hx hl (by omega) (by omega)).mono ?_
  rintro e w' ⟨rfl, rfl⟩
  go_wp2_with fail
  refine (toIntSS_any A c t _ hx ht HT.out).mono ?_
  rintro e w1 ⟨gA1, cA1, vA1, rfl, hA1, oA1, hb1⟩
  go_wp2_with fail
  refine (HS.out _ cA1 _ oA1.tab).mono ?_
  rintro e w2 ⟨As, cs, Bs, ds, rfl, ls, ks, hb2⟩
  have h2 := hb1.trans (hb2.mono hb1.size)
  have HLS := Lib.hid ls
  have HKS := Lib.hid ks
  clear oA1 ls ks
  go_wp2_with fail
  refine (toIntSS_any A c t _ (hx.below h2) ht HT.out).mono ?_
  rintro e w3 ⟨gA2, cA2, vA2, rfl, hA2, oA2, hb3⟩
  have h3 := h2.trans (hb3.mono h2.size)
  have HA3 := Lib.hid oA2
  clear oA2
  go_wp2_with fail
  refine (HI.out _ cA2 _ HA3.out.tab).mono ?_
  rintro e w4 ⟨Ag, cg, Bg, dg, rfl, og, og2, hne, hb4⟩
  have h4 := h3.trans (hb4.mono h3.size)
  have k4 : Below w2.heap.size w2 w4 := hb3.trans (hb4.mono hb3.size)
  have HG4 := Lib.hid og
  have HK4 := Lib.hid og2
  have HN := Lib.hid hne
  clear og og2 hne
  go_wp2_with fail
  refine (eqIntS_any Ag As cg cs xs xs _ (Lst.of_own HG4.out).1 (HLS.out.below k4).1 HXM.out).mono ?_
  rintro e w5 ⟨rfl, hq5⟩
  go_wp2_with fail
  refine (eqIntS_any Bg Bs dg ds ys ys _ ((Lst.of_own HK4.out).below hq5.below).1 ((HKS.out.below k4).below hq5.below).1 HYM.out).mono ?_
  rintro e w6 ⟨rfl, hq6⟩
  have q6 := hq5.trans hq6
  have h6 := h4.trans (q6.below.mono h4.size)
  have k6 := k4.trans (q6.below.mono k4.size)
  clear hq5 hq6
  go_wp2_with fail
  refine (toIntSS_any A c t _ (hx.below h6) ht HT.out).mono ?_
  rintro e w7 ⟨gA3, cA3, vA3, rfl, hA3, oA3, hb7⟩
  have h7 := h6.trans (hb7.mono h6.size)
  have k7 := k6.trans (hb7.mono k6.size)
  have b47 : Below w4.heap.size w4 w7 := q6.below.trans (hb7.mono q6.below.size)
  have HA7 := Lib.hid ((HA3.out.below hb4).below b47)
  have HG7 := Lib.hid (own_below HG4.out b47)
  have HK7 := Lib.hid (own_below HK4.out b47)
  clear HA3 HG4 HK4
  go_wp2_with fail
  refine (eqIntSS_any _ _ cA2 cA3 t t _ HA7.out.tab oA3.tab hl).mono ?_
  rintro e w8 ⟨rfl, hq8⟩
  have h8 := h7.trans (hq8.below.mono h7.size)
  have k8 := k7.trans (hq8.below.mono k7.size)
  have HA8 := Lib.hid (HA7.out.below hq8.below)
  have HG8 := Lib.hid (own_below HG7.out hq8.below)
  have HK8 := Lib.hid (own_below HK7.out hq8.below)
  clear HA7 HG7 HK7 oA3
  go_wp2_with fail
  refine (markIntSS_any _ cA2 t 1 _ _ _ (Hold.of HA8.out) ht HT.out (by omega) (by omega)).mono ?_
  rintro e w9 ⟨rfl, -, ht9⟩
  have h9 := h8.trans (ht9.below (B := w.heap.size) h2.size h8.size)
  have k9 := k8.trans (ht9.below (B := w2.heap.size) (Nat.le_refl _) k8.size)
  have HG9 := Lib.hid (own_turns HG8.out ht9 (Nat.le_refl _))
  have HK9 := Lib.hid (own_turns HK8.out ht9 (Nat.le_refl _))
  clear HA8 HG8 HK8
  go_wp2_with fail
  refine (eqIntS_any Ag As cg cs xs xs _ (Lst.of_own HG9.out).1 (HLS.out.below k9).1 HXM.out).mono ?_
  rintro e w10 ⟨rfl, hq10⟩
  go_wp2_with fail
  refine (eqIntS_any Bg Bs dg ds ys ys _ ((Lst.of_own HK9.out).below hq10.below).1 ((HKS.out.below k9).below hq10.below).1 HYM.out).mono ?_
  rintro e w11 ⟨rfl, hq11⟩
  have q11 := hq10.trans hq11
  have h11 := h9.trans (q11.below.mono h9.size)
  have k11 := k9.trans (q11.below.mono k9.size)
  have HG11 := Lib.hid (own_below HG9.out q11.below)
  have HK11 := Lib.hid (own_below HK9.out q11.below)
  clear HG9 HK9 hq10 hq11
  go_wp2_with fail
  refine (markIntS_any Ag xs.length cg xs 1 _ _ rfl HG11.out (by omega) (by omega) (by omega)).mono ?_
  rintro e w12 ⟨rfl, og, hg12⟩
  have HG12 := Lib.hid og
  have HK12 := Lib.hid (HK11.out.kept hg12 (by
    cases hub : (Value.slice Bg ys.length dg).ownBlock with
    | none => exact .inl rfl
    | some b => exact .inr fun e => HN.out b e.symm hub))
  have h12 := h11.trans ((Below.refl _ _).grown hg12 h11.size (fun b e => by have := (HG11.out.lt b e).1; have := h3.size; omega))
  have k12 := k11.trans ((Below.refl _ _).grown hg12 k11.size (fun b e => by have := (HG11.out.lt b e).1; have := hb3.size; omega))
  clear og HG11 HK11
  go_wp2_with fail
  refine (markIntS_any Bg ys.length dg ys (1 + xs.length) _ _ rfl HK12.out (by omega) (by omega) (by omega)).mono ?_
  rintro e w13 ⟨rfl, og, hg13⟩
  have HK13 := Lib.hid og
  have HG13 := Lib.hid (HG12.out.kept hg13 (by
    cases hub : (Value.slice Ag xs.length cg).ownBlock with
    | none => exact .inl rfl
    | some b => exact .inr fun e => HN.out b hub e.symm))
  have h13 := h12.trans ((Below.refl _ _).grown hg13 h12.size (fun b e => by have := (HK12.out.lt b e).1; have := h3.size; omega))
  have k13 := k12.trans ((Below.refl _ _).grown hg13 k12.size (fun b e => by have := (HK12.out.lt b e).1; have := hb3.size; omega))
  clear og HG12 HK12 hg12 hg13
  have nx : decide ((1 : Int) + (xs.length : Int) < 0) = false := decide_eq_false (by omega)
  have ny : decide ((1 : Int) + (xs.length : Int) + (ys.length : Int) < 0) = false := decide_eq_false (by omega)
  have hs1 : ∀ w', Below w13.heap.size w13 w' → Seq IntV w' Ag (numL (fun x => x) 1 xs.length) := fun w' hb => Seq.of_own (own_below HG13.out hb)
  have hs2 : ∀ w', Below w13.heap.size w13 w' → Seq IntV w' Bg (numL (fun x => x) (1 + xs.length) ys.length) := fun w' hb => Seq.of_own (own_below HK13.out hb)
  have HS1 := Lib.hid hs1
  have HS2 := Lib.hid hs2
  clear hs1 hs2 HG13 HK13
  go_wp2_with fail
  refine (heldIntS_any Ag xs.length cg 1 _ (HS1.out _ (Below.refl _ _)) (by omega) (by omega) (by omega)).mono ?_
  rintro e w14 ⟨rfl, hq14⟩
  go_wp2_with fail
  refine (heldIntS_any Bg ys.length dg (1 + xs.length) _ (HS2.out _ hq14.below) (by omega) (by omega) (by omega)).mono ?_
  rintro e w15 ⟨rfl, hq15⟩
  have q15 := hq14.trans hq15
  have b15 : Below w13.heap.size w13 w15 := q15.below
  have h15 := h13.trans (b15.mono h13.size)
  have k15 := k13.trans (b15.mono k13.size)
  clear hq14 hq15 q15
  go_wp2_with fail
  refine (toIntSS_any A c t _ (hx.below h15) ht HT.out).mono ?_
  rintro e w16 ⟨gA4, cA4, vA4, rfl, hA4, oA4, hb16⟩
  go_wp2_with fail
  refine (HI.out _ cA4 _ oA4.tab).mono ?_
  rintro e w17 ⟨Ah, ch, Bh, dh, rfl, oh, oh2, -, hb17⟩
  have b17 : Below w13.heap.size w13 w17 := (b15.trans (hb16.mono b15.size)).trans (hb17.mono (Nat.le_trans b15.size hb16.size))
  have h17 := h13.trans (b17.mono h13.size)
  have k17 := k13.trans (b17.mono k13.size)
  clear oA4
  go_wp2_with fail
  refine (eqIntS_any Ah As ch cs xs xs _ (Lst.of_own oh).1 (HLS.out.below k17).1 HXM.out).mono ?_
  rintro e w18 ⟨rfl, hq18⟩
  go_wp2_with fail
  refine (eqIntS_any Bh Bs dh ds ys ys _ ((Lst.of_own oh2).below hq18.below).1 ((HKS.out.below k17).below hq18.below).1 HYM.out).mono ?_
  rintro e w19 ⟨rfl, hq19⟩
  have q19 := hq18.trans hq19
  have b19 : Below w13.heap.size w13 w19 := b17.trans (q19.below.mono b17.size)
  clear oh oh2 hq18 hq19
  go_wp2_with fail
  refine (heldIntS_any Ag xs.length cg 1 _ (HS1.out _ b19) (by omega) (by omega) (by omega)).mono ?_
  rintro e w20 ⟨rfl, hq20⟩
  go_wp2_with fail
  refine (heldIntS_any Bg ys.length dg (1 + xs.length) _ (HS2.out _ (b19.trans (hq20.below.mono b19.size))) (by omega) (by omega) (by omega)).mono ?_
  rintro e w21 ⟨rfl, hq21⟩
  have b21 : Below w13.heap.size w13 w21 := b19.trans ((hq20.trans hq21).below.mono b19.size)
  go_wp2_with fail
  go_ret
  exact ⟨rfl, h13.trans (b21.mono h13.size)⟩
end Go.Proofs.Ytkneddahefhedaa.fnExactTableSums
