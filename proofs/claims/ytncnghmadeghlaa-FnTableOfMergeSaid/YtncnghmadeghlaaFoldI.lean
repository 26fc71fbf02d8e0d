/- TableFold of the program. -/
import Derived.Test.YtncnghmadeghlaaFoldW
import Derived.Test.YtncnghmadeghlaaCopyI
import Derived.Test.YtncnghmadeghlaaDelete
import Derived.Test.YtncnghmadeghlaaTabValidI
namespace Go.Proofs.Ytncnghmadeghlaa
open Go.RowKit
set_option linter.unusedVariables false
attribute [local go_sem] Oper.semAt_some
set_option maxHeartbeats 400000 in
theorem implFold_no (A : Option Addr) (c : Nat) (t : List (List Int)) (a b : Int) (w : World) (hx : Tab IntV w A t) (hl : t.length ≤ maxLen) (hv : foldIn t a b = false) :
    Calls Try.prog 27 #[.slice A t.length c, .int .i64 a, .int .i64 b] w fun e w' => e = .returned (.tuple #[.slice none 0 0, .bool false]) ∧ Below w.heap.size w w' := by
  have hc := implTableValid_any A c t w hx hl
  unfold maxLen at hl
  cases hT : tabValid t
  · rw [hT] at hc
    have HC := Lib.hid hc
    clear hc hT hv
    go_enter Try.func27, Try.ntmps27
    go_wp2_with fail
    refine HC.out.mono ?_
    rintro e w1 ⟨rfl, rfl⟩
    go_wp2_with fail
    go_ret2
    exact ⟨rfl, Below.refl _ _⟩
  · rw [hT] at hc
    have HC := Lib.hid hc
    have hn : ¬ (0 ≤ a ∧ a < b ∧ b < (t.length : Int)) := by
      simpa [foldIn, hT] using hv
    have h3 : (a < 0) ∨ (decide (a < 0) = false ∧ b ≤ a) ∨ (decide (a < 0) = false ∧ decide (b ≤ a) = false ∧ (t.length : Int) ≤ b) := by
      by_cases e1 : a < 0
      · exact .inl e1
      · by_cases e2 : b ≤ a
        · exact .inr (.inl ⟨decide_eq_false e1, e2⟩)
        · exact .inr (.inr ⟨decide_eq_false e1, decide_eq_false e2, by omega⟩)
    clear hc hT hv hn
    rcases h3 with e1 | ⟨e1, e2⟩ | ⟨e1, e2, e3⟩
    all_goals
      go_enter Try.func27, Try.ntmps27
      go_wp2_with fail
      refine HC.out.mono ?_
      rintro e w1 ⟨rfl, rfl⟩
      go_wp2_with fail
      go_ret2
      exact ⟨rfl, Below.refl _ _⟩
theorem own_rows {α : Type} {f : α → Value} {E : TypeId} {lo hi g : Nat} {w : World} {vs : Nat → Value} {t : List (List α)} (ho : OwnT f E lo hi w g vs t) : ∃ us : List RowW, us.length = t.length ∧ ∀ j u, us[j]? = some u → vs j = RowV u := by
  have hex : ∀ j : Nat, ∃ u : RowW, j < t.length → vs j = RowV u := by
    intro j
    by_cases hj : j < t.length
    · obtain ⟨A, c, e, -⟩ := ho.val (List.getElem?_eq_getElem hj)
      exact ⟨⟨A, _, c⟩, fun _ => e⟩
    · exact ⟨⟨none, 0, 0⟩, fun h => absurd h hj⟩
  obtain ⟨F, hF⟩ := Classical.axiomOfChoice hex
  refine ⟨(List.range t.length).map F, by simp, fun j u hu => ?_⟩
  have hj : j < t.length := by
    have := (List.getElem?_eq_some_iff.1 hu).1
    simpa using this
  simp [hj] at hu
  rw [hF j hj, hu]
/-- one row of a table of one's own is gone -/
theorem own_skip {α : Type} {f : α → Value} {E : TypeId} {lo hi g h wd q : Nat} {w w' : World} {vs : Nat → Value} {F : Nat → Nat → α} (ho : OwnT f E lo hi w g vs (mkT h wd F)) (hq : q < h) (hg : w.grownBy w' (some g))
    (hc : ∀ j, j < h - 1 → w'.cell? ⟨g, j, none⟩ = some (vs (skp q j))) : OwnT f E lo hi w' g (fun j => vs (skp q j)) (mkT (h - 1) wd (fun i => F (skp q i))) where
  gin := ho.gin
  hin := Nat.le_trans ho.hin hg.size
  outer j hj := hc j (by rwa [mkT_len] at hj)
  row j r hr := by
    have hj : j < h - 1 := by have := (List.getElem?_eq_some_iff.1 hr).1; rwa [mkT_len] at this
    rw [mkT_get _ hj] at hr
    injection hr with hr
    subst hr
    have h1 := ho.row (skp q j) _ (mkT_get F (skp_lt hq hj))
    exact h1.kept hg (by
      cases hub : (vs (skp q j)).ownBlock with
      | none => exact .inl rfl
      | some b => exact .inr fun e => (ho.top (skp q j) b (by rw [mkT_len]; exact skp_lt hq hj) hub).2 (by injection e))
  top j b hj hb := ho.top (skp q j) b (by rw [mkT_len] at hj ⊢; exact skp_lt hq hj) hb
  far i j b hi' hj hij := ho.far (skp q i) (skp q j) b (by rw [mkT_len] at hi' ⊢; exact skp_lt hq hi') (by rw [mkT_len] at hj ⊢; exact skp_lt hq hj) (fun e => hij (skp_inj e))
set_option maxHeartbeats 2000000 in
theorem implFold_yes (A : Option Addr) (c h wd p q : Nat) (G : Nat → Nat → Int) (w : World) (hx : Tab IntV w A (mkT h wd G)) (gd : Good h wd G) (hpq : p < q) (hq : q < h) :
    Calls Try.prog 27 #[.slice A h c, .int .i64 p, .int .i64 q] w (GotT IntV 3 w (foldT (mkT h wd G) p q) (foldOk (mkT h wd G) p q)) := by
  have h4 := gd.h4
  have w1 := gd.w1
  have w4 := gd.w4
  have hc := implTableValid_any A c (mkT h wd G) w hx (by rw [mkT_len]; unfold maxLen; omega)
  rw [mkT_len, gd.valid] at hc
  have HC := Lib.hid hc
  have HGD := Lib.hid gd
  have HX := Lib.hid hx
  have i1 : (p : Int) < (q : Int) := by omega
  have i2 : (q : Int) < (h : Int) := by omega
  have i3 : (p : Int) < ((h - 1 : Nat) : Int) := by omega
  clear hc gd hx
  go_enter Try.func27, Try.ntmps27
  go_wp2_with fail
  refine HC.out.mono ?_
  rintro e w' ⟨rfl, rfl⟩
  go_wp2_with fail
  refine (copyTable_any A c h wd G _ HX.out (by omega) w1 (by omega)).mono ?_
  rintro e w1' ⟨g, vs, rfl, hout, hown, hb1⟩
  have HOW := Lib.hid hown
  have HOU := Lib.hid hout
  have HB1 := Lib.hid hb1
  clear hown hout hb1 HC
  obtain ⟨us, hul, huv⟩ := own_rows HOW.out
  rw [mkT_len] at hul
  have hmap : mkL h vs = us.map RowV := by
    apply List.ext_getElem?
    intro j
    by_cases hj : j < h
    · rw [mkL_get _ hj, List.getElem?_map, List.getElem?_eq_getElem (by omega), Option.map_some, huv j _ (List.getElem?_eq_getElem (by omega))]
    · rw [List.getElem?_eq_none (by rw [mkL_len]; omega), List.getElem?_eq_none (by simp; omega)]
  have hdel := delete_row g h q w.heap.size us w1' (by rw [← hmap]; exact HOU.out) hq (by omega)
  have HDEL := Lib.hid hdel
  have HUL := Lib.hid hul
  have HUV := Lib.hid huv
  clear hdel hmap hul huv HOU
  go_wp2_with fail
  refine HDEL.out.mono ?_
  rintro e w2 ⟨rfl, hcell, hg2⟩
  have hown2 := own_skip HOW.out hq hg2 (fun j hj => by
    have hlt := skp_lt hq hj
    have hlt2 : skp q j < us.length := by rw [HUL.out]; exact hlt
    have hu : us[skp q j]? = some us[skp q j] := List.getElem?_eq_getElem hlt2
    rw [hcell j _ (by rw [erase_at us (by rw [HUL.out]; exact hq)]; exact hu), HUV.out _ _ hu])
  obtain ⟨hi, hhi⟩ : ∃ hi, hi = w1'.heap.size := ⟨_, rfl⟩
  rw [← hhi] at hown2
  have hb2 : Below w.heap.size w w2 := HB1.out.trans (grow_below hg2 HB1.out.size HOW.out.gin.1)
  have hz2 := hg2.size
  have HOW2 : Hid (OwnT IntV 3 w.heap.size hi w2 g (fun j => vs (skp q j)) (mkT (h - 1) wd (fdK G p q 0))) := Lib.hid (by rw [fdK_zero]; exact hown2)
  have HB2 := Lib.hid hb2
  have hhi2 : hi ≤ w2.heap.size := by omega
  clear hcell hg2 hown2 hb2 HDEL HOW HB1 HUL HUV hhi hz2
  obtain ⟨vz, hvz⟩ : ∃ vz : Nat → Value, vz = fun j => vs (skp q j) := ⟨_, rfl⟩
  rw [← hvz] at HOW2
  clear hvz
  obtain ⟨b0, o0, Aq, cq, rfl, hb0, rq, hLq⟩ := (HX.out.below HB2.out).mkrow hq
  have HLQ := Lib.hid hLq
  have HT2 : Hid (Turns w.heap.size hi w2 w2) := Lib.hid (Turns.refl _ _ _)
  clear hLq
  go_wp2_with fail
  go_loopw [40] (fun i wr => ∃ k : Nat, k ≤ wd ∧ i = .int .i64 k ∧ Hid (OwnT IntV 3 w.heap.size hi wr g vz (mkT (h - 1) wd (fdK G p q k))) ∧ Hid (Turns w.heap.size hi w2 wr)) (fun i _ => wd - (intOf i).toNat)
  case atStart => exact ⟨0, Nat.zero_le _, rfl, HOW2, HT2⟩
  case round =>
    clear HOW2 HT2
    obtain ⟨k, hk, rfl, HO, HT⟩ := hrel
    obtain ⟨W, rfl⟩ : ∃ W : World, W = wr := ⟨_, rfl⟩
    have hBW : Below w.heap.size w W := HB2.out.trans (HT.out.below (Nat.le_refl _) HB2.out.size)
    by_cases hlt : k < wd
    · obtain ⟨bt, ot, bq, oq, cq', e1, -, rq2, -, cqk, -⟩ := (HX.out.below hBW).mk hq hlt
      obtain ⟨b2, o2, Aq2, cq2, e2, -, rq3, hLq2⟩ := (HX.out.below HB2.out).mkrow hq
      obtain ⟨br, cr, hv, r1, r2, r3, c3, c4, f4, -, hset⟩ := HO.out.cell_ (i := p) (j := k) (by omega) hlt
      have hset' := hset (G p k + G q k)
      rw [fdK_step] at hset'
      rw [fdK_at hpq] at c4
      simp only [IntV] at c4 cqk
      obtain ⟨x, hxe⟩ : ∃ x, G p k = x := ⟨_, rfl⟩
      obtain ⟨y, hye⟩ : ∃ y, G q k = y := ⟨_, rfl⟩
      have x0 := HGD.out.lo p k
      have x1 := HGD.out.hi p k
      have y0 := HGD.out.lo q k
      have y1 := HGD.out.hi q k
      rw [hxe] at x0 x1 c4 hset'
      rw [hye] at y0 y1 cqk hset'
      obtain ⟨bq2, oq2, x9, rfl, hbq2, hx9, hcq2⟩ := HLQ.out.1.at_ (k := k) (by rw [mkL_len]; exact hlt)
      rw [mkL_get _ hlt] at hx9
      injection hx9 with hx9
      have hcq3 : W.cell? ⟨bq2, oq2 + k, none⟩ = some (.int .i64 y) := by
        have h1 := (HT.out.below (Nat.le_refl _) HB2.out.size).cell (p := ⟨bq2, oq2 + k, none⟩)
        by_cases hlow : bq2 < w.heap.size
        · rw [h1 hlow, hcq2, ← hx9, hye]
        · exfalso
          -- the row of the argument lies below
          have := HX.out.mkrow hq
          obtain ⟨bb, oo, AA, cc, e9, hbb9, rr9, LL9⟩ := this
          injection e9 with e9
          injection e9 with e91 e92
          subst e91 e92
          have h9 := (HB2.out.cell (p := ⟨b0, o0 + q, none⟩) hbb9).trans rr9
          rw [rq] at h9
          injection h9 with h9
          injection h9 with h91 h92 h93
          subst h91
          obtain ⟨b7, o7, x7, e7, hb7, -, -⟩ := LL9.1.at_ (k := k) (by rw [mkL_len]; exact hlt)
          injection e7 with e7
          injection e7 with e71 e72
          omega
      have HS := Lib.hid hset'
      have HT' : Hid (Turns w.heap.size hi w2 (W.setCell ⟨br, k, none⟩ (.int .i64 (x + y)))) := Lib.hid (HT.out.setCell (p := ⟨br, k, none⟩) r1 r2 _)
      have g1 : (k : Int) < (wd : Int) := by omega
      clear hset hset' hv e1 rq2 cqk e2 rq3 hLq2 hxe hye hx9 hcq2 hBW
      go_wp2_with fail
      go_roundw
      case rel => exact ⟨k + 1, by omega, by go_num, HS, HT'⟩
      case measure => simp [intOf]; omega
    · obtain rfl : k = wd := by omega
      have hT := HO.out.tab
      have hva := implTableValid_any (some ⟨g, 0, none⟩) h _ W hT (by rw [mkT_len]; unfold maxLen; omega)
      rw [mkT_len, fdK_all] at hva
      have hok := fold_ok HGD.out hpq hq
      have hR := fold_mk HGD.out hpq hq
      have hs3 : hi ≤ W.heap.size := HO.out.hin
      have hown := HO.out.wide (lo' := w.heap.size) (hi' := W.heap.size) (Nat.le_refl _) hs3 (Nat.le_refl _)
      rw [fdK_all] at hown
      have HV := Lib.hid hva
      have HOK := Lib.hid hok
      have HR := Lib.hid hR
      have HW := Lib.hid hown
      cases hv : tabValid (mkT (h - 1) k (fdF G p q))
      · rw [hv] at HV HOK
        clear hT hva hok hR hown hv
        go_wp2_with fail
        refine HV.out.mono ?_
        rintro e w' ⟨rfl, rfl⟩
        go_wp2_with fail
        go_ret2
        rw [HOK.out, fold_no HOK.out]
        exact ⟨none, 0, rfl, ⟨by simp, by unfold maxLen; omega, fun _ => rfl⟩, Hold.nil_, hBW⟩
      · rw [hv] at HV HOK
        clear hT hva hok hR hown hv
        go_wp2_with fail
        refine HV.out.mono ?_
        rintro e w' ⟨rfl, rfl⟩
        go_wp2_with fail
        go_ret2
        rw [foldT, HOK.out, if_pos rfl, HR.out]
        exact ⟨some ⟨g, 0, none⟩, h, by rw [mkT_len]; rfl, by rw [mkT_len]; exact ⟨by omega, by unfold maxLen; omega, fun e => by cases e⟩, fun _ => ⟨g, vz, rfl, HW.out⟩, hBW⟩
theorem implFold_any (A : Option Addr) (c : Nat) (t : List (List Int)) (a b : Int) (w : World) (hx : Tab IntV w A t) (hl : t.length ≤ maxLen) :
    Calls Try.prog 27 #[.slice A t.length c, .int .i64 a, .int .i64 b] w (GotT IntV 3 w (foldT t a b) (foldOk t a b)) := by
  rcases fold_cases t a b with ⟨e1, e2, e3⟩ | ⟨h, wd, G, p, q, rfl, gd, rfl, rfl, hpq, hq⟩
  · refine (implFold_no A c t a b w hx hl e1).mono ?_
    rintro e w' ⟨rfl, hb⟩
    rw [e2, e3]
    exact ⟨none, 0, rfl, ⟨by simp, by unfold maxLen; omega, fun _ => rfl⟩, Hold.nil_, hb⟩
  · rw [mkT_len]
    exact implFold_yes A c h wd p q G w hx gd hpq hq
end Go.Proofs.Ytncnghmadeghlaa
