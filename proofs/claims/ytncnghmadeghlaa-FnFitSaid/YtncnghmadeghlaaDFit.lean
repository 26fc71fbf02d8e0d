/- DrawFitTables: some table, some mask and some rows of as many. -/
import Derived.Test.YtncnghmadeghlaaDHidd
import Derived.Test.YtncnghmadeghlaaChange
import Derived.Test.YtncnghmadeghlaaCopyT
import Derived.Test.YtncnghmadeghlaaOkS
import Derived.Test.YtncnghmadeghlaaBound
import Derived.Deep.RegionWith
namespace Go.Proofs.Ytncnghmadeghlaa
open Go.RowKit
set_option linter.unusedVariables false
/-- a table, a mask and rows are drawn -/
def DrewFit (w : World) (e : Ending) (w' : World) : Prop :=
  ∃ A c t A2 c2 m A3 c3 x, e = .returned (.tuple #[.slice A (t : List (List Int)).length c, .slice A2 (m : List (List Bool)).length c2, .slice A3 (x : List (List Int)).length c3]) ∧ Tab IntV w' A t ∧ Tab BoolV w' A2 m ∧ Tab IntV w' A3 x ∧ t.length ≤ 4 ∧ m.length ≤ 5 ∧ x.length ≤ 4 ∧ Below w.heap.size w w'
/-- the part of a world that was there before, but for one block -/
theorem grown_base {w W : World} {g : Nat} (h : w.grownBy W (some g)) : ∃ w0 : World, w0.heap.size = w.heap.size ∧ w.grownBy w0 (some g) ∧ Below w.heap.size w0 W := by
  have hs := h.size
  have hz : ∀ k, k < w.heap.size → (W.heap.extract 0 w.heap.size)[k]? = W.heap[k]? := fun k hk => by
    rw [Array.getElem?_extract]
    simp
    intro hk2
    omega
  refine ⟨{ W with heap := W.heap.extract 0 w.heap.size }, by simp; omega, ⟨h.os, h.tape, h.output, by simp; omega, fun i hi hne => (hz i hi).trans (h.block i hi hne)⟩, ⟨rfl, rfl, rfl, by simp; omega, fun k hk => (hz k hk).symm⟩⟩
/-- what is known of x between two changes -/
structure XRel (w2 : World) (B gR lo hi : Nat) (A3 : Option Addr) (t : List (List Int)) (q : Nat) (x : List (List Int)) (W : World) : Prop where
  len : x.length = t.length
  val : tabValid t = true → ∃ h wd G X, t = mkT h wd G ∧ Good h wd G ∧ x = mkT h wd X ∧ ∀ i j, i < h → j < wd → -2000 ≤ X i j ∧ X i j ≤ 2000
  own : Hold IntV 3 lo hi W A3 x
  rd : Rd W B gR q
  hq : q ≤ 500
  gr : w2.grownBy W (some gR)
theorem XRel.qu {w2 : World} {B gR lo hi : Nat} {A3 : Option Addr} {t : List (List Int)} {q : Nat} {x : List (List Int)} {W W' : World} (h : XRel w2 B gR lo hi A3 t q x W) (hq : Qu W W') (hB : B ≤ W.heap.size) : XRel w2 B gR lo hi A3 t q x W' :=
  ⟨h.len, h.val, h.own.below hq.below, h.rd.below (hq.below.mono hB), h.hq, h.gr.trans (grow_of_below hq.below _)⟩
theorem XRel.pick {w2 : World} {B gR lo hi : Nat} {A3 : Option Addr} {t : List (List Int)} {q : Nat} {x : List (List Int)} {W W' : World} (h : XRel w2 B gR lo hi A3 t q x W) (hr : Rd W' B gR (q + 1)) (hg : W.grownBy W' (some gR)) (hq : q + 1 ≤ 500) (hl : gR < lo) : XRel w2 B gR lo hi A3 t (q + 1) x W' :=
  ⟨h.len, h.val, fun hn => by
    obtain ⟨g, vs, e, ho⟩ := h.own hn
    exact ⟨g, vs, e, ho.keep hg.size fun i h1 h2 => hg.block i (Nat.lt_of_lt_of_le h2 ho.hin) (fun e => by injection e with e; omega)⟩, hr, hq, h.gr.trans hg⟩
/-- a cell that is hidden -/
def CellOf (t : List (List Int)) (m : List (List Bool)) (i j : Int) : Prop := ∃ h wd G M a b, t = mkT h wd G ∧ Good h wd G ∧ m = mkT h wd M ∧ (a : Nat) < h ∧ (b : Nat) < wd ∧ i = (a : Int) ∧ j = (b : Int) ∧ M a b = true
/-- what a change leaves, in short -/
def Moved (h wd : Nat) (G : Nat → Nat → Int) (M : Nat → Nat → Bool) (a b lo hi g : Nat) (vs : Nat → Value) (w : World) (e : Ending) (w' : World) : Prop :=
  ∃ (r : Bool) (X : Nat → Nat → Int), e = .returned (.bool r) ∧ OwnT IntV 3 lo hi w' g vs (mkT h wd X) ∧ FitG h wd G M a b X ∧ Turns lo hi w w'
theorem fit_bd {h wd a b : Nat} {G : Nat → Nat → Int} {M : Nat → Nat → Bool} {X : Nat → Nat → Int} (gd : Good h wd G) (ha : a < h) (hb : b < wd) (hX : FitG h wd G M a b X) : ∀ i j, i < h → j < wd → -2000 ≤ X i j ∧ X i j ≤ 2000 := fun i j hi hj => by
  have hF : ∀ i j, 0 ≤ G i j ∧ G i j ≤ 99 := fun i j => ⟨gd.lo i j, gd.hi i j⟩
  by_cases e : i = a ∧ j = b
  · rw [e.1, e.2]
    have := fit_own ha hb gd.h4 gd.w4 hF hX
    omega
  · have h1 := hX.nn i j hi hj e
    have h2 := fit_le ha hb gd.h4 gd.w4 hF hX hi hj e
    omega
set_option maxRecDepth 100000 in
set_option maxHeartbeats 4000000 in
theorem drawFit_any (A : Option Addr) (c : Nat) (bs : List Int) (w : World) (hs : Seq ByteV w A bs) (hl : bs.length ≤ maxLen) (hc : bs.length ≤ c) (hc' : c ≤ maxLen) (hby : ∀ b ∈ bs, 0 ≤ b ∧ b ≤ 255) :
    Calls Try.prog 41 #[.slice A bs.length c] w (DrewFit w) := by
  go_enter Try.func41, Try.ntmps41
  go_wp2_with fail
  refine (l6Open_any A c bs _ hs hl hc hc' hby).mono ?_
  rintro e w1 ⟨rfl, hr, hb, hz⟩
  go_wp2_with fail
  refine (l92Hidden_any _ _ 0 _ hr hz (by omega)).mono ?_
  rintro e w2 ⟨A1, c1, t, A2, c2, m, i, j, p1, rfl, hc1, hT, hsh, hm, hi, hj, hr2, hp1, hg⟩
  have hb2 : Below w.heap.size w w2 := hb.trans (grow_below hg hb.size (Nat.le_refl _))
  have hz2 : w.heap.size + 1 ≤ w2.heap.size := Nat.le_trans hz hg.size
  have ht4 := hsh.1
  have HT := Lib.hid hT
  have HB2 := Lib.hid hb2
  have hcp := l11Copy_any A1 c1 t w2 (hT w2 (World.grownBy.refl _ _)).1 (by omega) (fun r hr => by have := (hsh.2 r hr).1; omega)
  have HCP := Lib.hid hcp
  have HSH := Lib.hid hsh
  clear hb hs hr hg hT hcp hsh hb2
  go_wp2_with fail
  refine HCP.out.mono ?_
  rintro e w3 ⟨A3, c3, vs, rfl, -, hgr, hb3⟩
  obtain ⟨lo, hlo⟩ : ∃ lo, lo = w2.heap.size := ⟨_, rfl⟩
  obtain ⟨hi3, hhi⟩ : ∃ hi3, hi3 = w3.heap.size := ⟨_, rfl⟩
  have hs3 : lo ≤ hi3 := by rw [hlo, hhi]; exact hb3.size
  have hX0 : XRel w2 (w.heap.size + 1) w.heap.size lo hi3 A3 t p1 t w3 := ⟨rfl, fun hv => by
      rcases tab_cases t with h0 | ⟨h, wd, G, rfl, gd⟩
      · rw [h0] at hv; cases hv
      · exact ⟨h, wd, G, G, rfl, gd, rfl, fun i j _ _ => by have := gd.lo i j; have := gd.hi i j; omega⟩, by rw [hlo, hhi]; exact hgr.hold, hr2.below (hb3.mono hz2), by omega, grow_of_below hb3 _⟩
  have HX0 := Lib.hid hX0
  have HLO := Lib.hid hlo
  have HHI := Lib.hid hhi
  clear hX0 hgr hr2 HCP hb3 hlo hhi
  have hgl : w.heap.size < lo := by have := HLO.out; omega
  obtain ⟨nt, hnt⟩ : ∃ n, t.length = n := ⟨_, rfl⟩
  obtain ⟨nm, hnm⟩ : ∃ n, m.length = n := ⟨_, rfl⟩
  rw [hnt] at ht4
  rw [hnm] at hm
  rw [hnt, hnm]
  have HNT := Lib.hid hnt
  have HNM := Lib.hid hnm
  clear hnt hnm
  go_upto_region 4 with (fail)
  go_cut [35] (fun v wx => ∃ r : Bool, v = .bool r ∧ Hid (r = true → CellOf t m i j) ∧ Hid (XRel w2 (w.heap.size + 1) w.heap.size lo hi3 A3 t p1 t wx))
  case first =>
    rcases mask_cases t m with hv | ⟨h, wd, G, M, rfl, gd, rfl⟩
    · have hok := l13Ok_no A1 A2 c1 c2 t m i j w3 (HT.out w3 HX0.out.gr).1 (HT.out w3 HX0.out.gr).2 (by rw [HNT.out]; unfold maxLen; omega) (by rw [HNM.out]; unfold maxLen; omega) hv
      rw [HNT.out, HNM.out] at hok
      have HOK := Lib.hid hok
      clear hok hv
      go_wp2_with fail
      refine HOK.out.mono ?_
      rintro e w4 ⟨rfl, q4⟩
      have hx4 := HX0.out.qu q4 (by have := HX0.out.gr.size; omega)
      clear q4
      go_wp2_with fail
      go_meet
      exact ⟨false, rfl, Lib.hid (fun e => by cases e), Lib.hid hx4⟩
    · have g1 := gd.h1
      have k1 := gd.w1
      have hok := l13Ok_yes A1 A2 c1 c2 h wd G M i j w3 (HT.out w3 HX0.out.gr).1 (HT.out w3 HX0.out.gr).2 gd
      have HGD := Lib.hid gd
      obtain rfl : h = nt := by rw [← HNT.out, mkT_len]
      obtain rfl : h = nm := by rw [← HNM.out, mkT_len]
      by_cases hin : (0 ≤ i ∧ i < (h : Int)) ∧ (0 ≤ j ∧ j < (wd : Int))
      · rw [inB_yes (by omega) (by omega), inB_yes (by omega) (by omega)] at hok
        have HOK := Lib.hid hok
        obtain ⟨a, rfl⟩ := Int.eq_ofNat_of_zero_le hin.1.1
        obtain ⟨b, rfl⟩ := Int.eq_ofNat_of_zero_le hin.2.1
        have ha : a < h := by omega
        have hb : b < wd := by omega
        clear hok gd hin
        go_wp2_with fail
        refine HOK.out.mono ?_
        rintro e w4 ⟨rfl, q4⟩
        have hx4 := HX0.out.qu q4 (by have := HX0.out.gr.size; omega)
        obtain ⟨mb, mq, mb', mq', d', rfl, -, k3, -, k4, -⟩ := (HT.out w4 hx4.gr).2.mk ha hb
        simp only [BoolV] at k4
        have HX4 := Lib.hid hx4
        have a1 : (a : Int) < (h : Int) := by omega
        have b1 : (b : Int) < (wd : Int) := by omega
        obtain ⟨r, hr⟩ : ∃ r, M a b = r := ⟨_, rfl⟩
        rw [hr] at k4
        have HR := Lib.hid hr
        clear q4 hx4 hr
        go_wp2_with fail
        go_meet
        exact ⟨r, rfl, Lib.hid (fun e => ⟨h, wd, G, M, a, b, rfl, HGD.out, rfl, ha, hb, rfl, rfl, HR.out.trans e⟩), HX4⟩
      · have hz : (inB i 0 ((h : Int) - 1) && inB j 0 ((wd : Int) - 1)) = false := by
          by_cases hi : 0 ≤ i ∧ i < (h : Int)
          · rw [inB_no (n := j) (by omega), Bool.and_false]
          · rw [inB_no (n := i) (by omega), Bool.false_and]
        rw [hz] at hok
        have HOK := Lib.hid hok
        clear hok hz gd hin
        go_wp2_with fail
        refine HOK.out.mono ?_
        rintro e w4 ⟨rfl, q4⟩
        have hx4 := HX0.out.qu q4 (by have := HX0.out.gr.size; omega)
        clear q4
        go_wp2_with fail
        go_meet
        exact ⟨false, rfl, Lib.hid (fun e => by cases e), Lib.hid hx4⟩
  case rest =>
    obtain ⟨r, rfl, HCO, HX⟩ := hcut
    obtain ⟨w4, rfl⟩ : ∃ w4 : World, w4 = wc := ⟨_, rfl⟩
    clear HX0
    go_upto_if 35 with (fail)
    go_cut [] (fun wx => ∃ q x, XRel w2 (w.heap.size + 1) w.heap.size lo hi3 A3 t q x wx)
    case first =>
      cases r
      · go_wp2_with fail
        go_meet
        exact ⟨_, _, HX.out⟩
      · obtain ⟨h, wd, G, M, a, b, rfl, gd, rfl, ha, hb, rfl, rfl, hM⟩ := HCO.out rfl
        have g1 := gd.h1
        have g4 := gd.h4
        have k4 := gd.w4
        obtain ⟨g, vs, rfl, hO⟩ := HX.out.own (by rw [mkT_len]; omega)
        have hgin := hO.gin
        obtain rfl : h = nt := by rw [← HNT.out, mkT_len]
        obtain rfl : h = nm := by rw [← HNM.out, mkT_len]
        have hch : ∀ (vs : Nat → Value) (X : Nat → Nat → Int) (raise : Bool) (W : World), FitG h wd G M a b X → OwnT IntV 3 lo hi3 W g vs (mkT h wd X) → w2.grownBy W (some w.heap.size) → Calls Try.prog 79 #[.slice (some ⟨g, 0, none⟩) h c3, .slice A2 h c2, .int .i64 a, .int .i64 b, .bool raise] W (Moved h wd G M a b lo hi3 g vs W) := fun vs X raise W hX hOX hgr => by
          obtain ⟨w0, e0, hg0, hb0⟩ := grown_base hgr
          refine (l13Change_any A2 c3 c2 h wd a b G X M raise lo hi3 g vs w0 W hOX (HT.out w0 hg0).2 (by rw [e0]; exact hb0) (by rw [e0, HLO.out]; exact Nat.le_refl _) (fun i j => ⟨gd.lo i j, gd.hi i j⟩) hX g4 k4 ha hb hM).mono ?_
          rintro e W' ⟨hT', ⟨rfl, hO', -, -⟩ | ⟨rfl, X', hO', hF', -⟩⟩
          · exact ⟨false, X, rfl, hO', hX, hT'⟩
          · exact ⟨true, X', rfl, hO', hF', hT'⟩
        have hxr : ∀ (vs : Nat → Value) (X : Nat → Nat → Int) (W W' : World) (q : Nat) (y : List (List Int)), XRel w2 (w.heap.size + 1) w.heap.size lo hi3 (some ⟨g, 0, none⟩) (mkT h wd G) q y W → OwnT IntV 3 lo hi3 W' g vs (mkT h wd X) → FitG h wd G M a b X → Turns lo hi3 W W' → XRel w2 (w.heap.size + 1) w.heap.size lo hi3 (some ⟨g, 0, none⟩) (mkT h wd G) q (mkT h wd X) W' := fun vs X W W' q y h1 h2 h3 h4 =>
          ⟨by rw [mkT_len, mkT_len], fun _ => ⟨h, wd, G, X, rfl, gd, rfl, fit_bd gd ha hb h3⟩, fun _ => ⟨g, vs, rfl, h2⟩, h1.rd.keep fun i hi => h4.block i (by have := h1.gr.size; have := HLO.out; omega) (.inl (by omega)), h1.hq, ⟨h4.os.trans h1.gr.os, h4.tape.trans h1.gr.tape, h4.output.trans h1.gr.output, Nat.le_trans h1.gr.size h4.size, fun i hi hne => (h4.block i (by have := h1.gr.size; omega) (.inl (by have := HLO.out; omega))).trans (h1.gr.block i hi hne)⟩⟩
        have HCH := Lib.hid hch
        have HXR := Lib.hid hxr
        have HGD := Lib.hid gd
        clear hch hxr hO gd hM
        go_wp2_with fail
        refine (pick_int _ _ p1 2 _ HX.out.rd (by omega) (by omega) (by omega)).mono ?_
        rintro e w5 ⟨k, rfl, hk, hr5, hg5, hz5⟩
        have HX5 := Lib.hid (HX.out.pick hr5 hg5 (by omega) hgl)
        clear hr5 hg5 hz5
        obtain ⟨g', vs', eg, hO5⟩ := HX5.out.own (by rw [mkT_len]; omega)
        injection eg with eg
        injection eg with eg
        subst eg
        have hfs : FitG h wd G M a b G := fit_self fun i j => HGD.out.lo i j
        by_cases hk0 : k = 0
        · as_aux_lemma =>
            have k0 : ((k : Int) == 0) = true := by simp [hk0]
            have HCC := Lib.hid (HCH.out vs' G true w5 hfs hO5 HX5.out.gr)
            clear hO5 hfs hk0
            go_wp2_with fail
            refine HCC.out.mono ?_
            rintro e w6 ⟨r, X, rfl, hO6, hF6, hT6⟩
            have HX6 := Lib.hid (HXR.out vs' X w5 w6 _ _ HX5.out hO6 hF6 hT6)
            have HF6 := Lib.hid hF6
            clear hO6 hF6 hT6
            cases r
            · go_wp2_with fail
              go_meet
              exact ⟨_, _, HX6.out⟩
            · go_wp2_with fail
              refine (pick_int _ _ (p1 + 1) 2 _ HX6.out.rd (by omega) (by omega) (by omega)).mono ?_
              rintro e w7 ⟨k2, rfl, hk2, hr7, hg7, hz7⟩
              have HX7 := Lib.hid (HX6.out.pick hr7 hg7 (by omega) hgl)
              clear hr7 hg7 hz7
              obtain ⟨g2, vs2, eg, hO7⟩ := HX7.out.own (by rw [mkT_len]; omega)
              injection eg with eg
              injection eg with eg
              subst eg
              by_cases hk20 : k2 = 0
              · have k20 : ((k2 : Int) == 0) = true := by simp [hk20]
                have HCC := Lib.hid (HCH.out vs2 X true w7 HF6.out hO7 HX7.out.gr)
                clear hO7 hk20
                go_wp2_with fail
                refine HCC.out.mono ?_
                rintro e w8 ⟨r2, X2, rfl, hO8, hF8, hT8⟩
                have HX8 := Lib.hid (HXR.out vs2 X2 w7 w8 _ _ HX7.out hO8 hF8 hT8)
                clear hO8 hF8 hT8
                go_wp2_with fail
                go_meet
                exact ⟨_, _, HX8.out⟩
              · have k20 : ((k2 : Int) == 0) = false := beq_eq_false_iff_ne.2 (by omega)
                clear hO7 hk20
                go_wp2_with fail
                go_meet
                exact ⟨_, _, HX7.out⟩
        · have k0 : ((k : Int) == 0) = false := beq_eq_false_iff_ne.2 (by omega)
          obtain ⟨bx, cx, -, -, -, -, x1, x2, -, -, -⟩ := hO5.cell_ ha hb
          simp only [IntV] at x2
          obtain ⟨y, hy⟩ : ∃ y, G a b = y := ⟨_, rfl⟩
          rw [hy] at x2
          have a1 : (a : Int) < (h : Int) := by omega
          have b1 : (b : Int) < (wd : Int) := by omega
          clear hy
          by_cases hy0 : y = 0
          · as_aux_lemma =>
              have y0 : (y == 0) = true := by simp [hy0]
              have HCC := Lib.hid (HCH.out vs' G true w5 hfs hO5 HX5.out.gr)
              clear hO5 hfs hk0 hy0
              go_wp2_with fail
              refine HCC.out.mono ?_
              rintro e w6 ⟨r, X, rfl, hO6, hF6, hT6⟩
              have HX6 := Lib.hid (HXR.out vs' X w5 w6 _ _ HX5.out hO6 hF6 hT6)
              have HF6 := Lib.hid hF6
              clear hO6 hF6 hT6
              cases r
              · go_wp2_with fail
                go_meet
                exact ⟨_, _, HX6.out⟩
              · go_wp2_with fail
                refine (pick_int _ _ (p1 + 1) 2 _ HX6.out.rd (by omega) (by omega) (by omega)).mono ?_
                rintro e w7 ⟨k2, rfl, hk2, hr7, hg7, hz7⟩
                have HX7 := Lib.hid (HX6.out.pick hr7 hg7 (by omega) hgl)
                clear hr7 hg7 hz7
                obtain ⟨g2, vs2, eg, hO7⟩ := HX7.out.own (by rw [mkT_len]; omega)
                injection eg with eg
                injection eg with eg
                subst eg
                by_cases hk20 : k2 = 0
                · have k20 : ((k2 : Int) == 0) = true := by simp [hk20]
                  have HCC := Lib.hid (HCH.out vs2 X true w7 HF6.out hO7 HX7.out.gr)
                  clear hO7 hk20
                  go_wp2_with fail
                  refine HCC.out.mono ?_
                  rintro e w8 ⟨r2, X2, rfl, hO8, hF8, hT8⟩
                  have HX8 := Lib.hid (HXR.out vs2 X2 w7 w8 _ _ HX7.out hO8 hF8 hT8)
                  clear hO8 hF8 hT8
                  go_wp2_with fail
                  go_meet
                  exact ⟨_, _, HX8.out⟩
                · have k20 : ((k2 : Int) == 0) = false := beq_eq_false_iff_ne.2 (by omega)
                  clear hO7 hk20
                  go_wp2_with fail
                  go_meet
                  exact ⟨_, _, HX7.out⟩
          · as_aux_lemma =>
              have y0 : (y == 0) = false := beq_eq_false_iff_ne.2 hy0
              have HCC := Lib.hid (HCH.out vs' G false w5 hfs hO5 HX5.out.gr)
              clear hO5 hfs hk0 hy0
              go_wp2_with fail
              refine HCC.out.mono ?_
              rintro e w6 ⟨r, X, rfl, hO6, hF6, hT6⟩
              have HX6 := Lib.hid (HXR.out vs' X w5 w6 _ _ HX5.out hO6 hF6 hT6)
              have HF6 := Lib.hid hF6
              clear hO6 hF6 hT6
              cases r
              · go_wp2_with fail
                go_meet
                exact ⟨_, _, HX6.out⟩
              · go_wp2_with fail
                refine (pick_int _ _ (p1 + 1) 2 _ HX6.out.rd (by omega) (by omega) (by omega)).mono ?_
                rintro e w7 ⟨k2, rfl, hk2, hr7, hg7, hz7⟩
                have HX7 := Lib.hid (HX6.out.pick hr7 hg7 (by omega) hgl)
                clear hr7 hg7 hz7
                obtain ⟨g2, vs2, eg, hO7⟩ := HX7.out.own (by rw [mkT_len]; omega)
                injection eg with eg
                injection eg with eg
                subst eg
                by_cases hk20 : k2 = 0
                · have k20 : ((k2 : Int) == 0) = true := by simp [hk20]
                  have HCC := Lib.hid (HCH.out vs2 X true w7 HF6.out hO7 HX7.out.gr)
                  clear hO7 hk20
                  go_wp2_with fail
                  refine HCC.out.mono ?_
                  rintro e w8 ⟨r2, X2, rfl, hO8, hF8, hT8⟩
                  have HX8 := Lib.hid (HXR.out vs2 X2 w7 w8 _ _ HX7.out hO8 hF8 hT8)
                  clear hO8 hF8 hT8
                  go_wp2_with fail
                  go_meet
                  exact ⟨_, _, HX8.out⟩
                · have k20 : ((k2 : Int) == 0) = false := beq_eq_false_iff_ne.2 (by omega)
                  clear hO7 hk20
                  go_wp2_with fail
                  go_meet
                  exact ⟨_, _, HX7.out⟩
    case rest =>
      obtain ⟨q, x, hX⟩ := hcut
      obtain ⟨w5, rfl⟩ : ∃ w5 : World, w5 = wc := ⟨_, rfl⟩
      have hq5 := hX.hq
      have HX5 := Lib.hid hX
      clear hX HX HCO
      have hend : ∀ (x : List (List Int)) (W : World), x.length = nt → Tab IntV W A3 x → w2.grownBy W (some w.heap.size) → DrewFit w (.returned (.tuple #[.slice A1 nt c1, .slice A2 nm c2, .slice A3 nt c3])) W := fun x W h1 h2 h3 =>
        ⟨A1, c1, t, A2, c2, m, A3, c3, x, by rw [HNT.out, HNM.out, h1], (HT.out W h3).1, (HT.out W h3).2, h2, by rw [HNT.out]; exact ht4, by rw [HNM.out]; exact hm, by rw [h1]; exact ht4, HB2.out.trans (grow_below h3 HB2.out.size (Nat.le_refl _))⟩
      have HEND := Lib.hid hend
      clear hend
      go_wp2_with fail
      refine (pick_int _ _ q 8 _ HX5.out.rd (by omega) (by omega) (by omega)).mono ?_
      rintro e w6 ⟨k, rfl, hk, hr6, hg6, hz6⟩
      have HG6 := Lib.hid (HX5.out.gr.trans hg6)
      have HO6 : Hid (Hold IntV 3 lo hi3 w6 A3 x) := Lib.hid fun hn => by
        obtain ⟨g, vs, e, ho⟩ := HX5.out.own hn
        exact ⟨g, vs, e, ho.keep hg6.size fun i h1 h2 => hg6.block i (Nat.lt_of_lt_of_le h2 ho.hin) (fun e => by injection e with e; omega)⟩
      have HRD := Lib.hid hr6
      clear hr6 hg6 hz6
      by_cases hk0 : k = 0
      · have k0 : ((k : Int) == 0) = true := by simp [hk0]
        have htv := specTableValid_any A1 c1 t w6 (HT.out w6 HG6.out).1 (by rw [HNT.out]; unfold maxLen; omega)
        rw [HNT.out] at htv
        cases hv : tabValid t
        · rw [hv] at htv
          have HTV := Lib.hid htv
          clear htv hv hk0
          go_wp2_with fail
          refine HTV.out.mono ?_
          rintro e w7 ⟨rfl, q7⟩
          have hg7 := HG6.out.trans (grow_of_below q7.below _)
          have hx7 := (HO6.out.below q7.below).tab
          clear q7
          go_wp2_with fail
          go_ret3
          exact HEND.out x _ (by rw [HX5.out.len, HNT.out]) hx7 hg7
        · rw [hv] at htv
          have HTV := Lib.hid htv
          obtain ⟨h, wd, G, X, rfl, gd, rfl, hXb⟩ := HX5.out.val hv
          obtain rfl : h = nt := by rw [← HNT.out, mkT_len]
          have g1 := gd.h1
          have g2 := gd.w1
          have HXB := Lib.hid hXb
          clear htv hv hk0 hXb gd
          go_wp2_with fail
          refine HTV.out.mono ?_
          rintro e w7 ⟨rfl, q7⟩
          have hg7 := HG6.out.trans (grow_of_below q7.below _)
          have hr7 := HRD.out.below (q7.below.mono (by have := HG6.out.size; omega))
          obtain ⟨g, vs, rfl, hO7⟩ := HO6.out.below q7.below (by rw [mkT_len]; omega)
          obtain ⟨b, cap, hv, hb1, hb2', hb3, cO, cR, fR, -, -⟩ := hO7.cell_ (i := 0) (j := 0) (by omega) (by omega)
          have hgin := hO7.gin
          have hhin := hO7.hin
          simp only [IntV] at cR
          obtain ⟨y, hy⟩ : ∃ y, X 0 0 = y := ⟨_, rfl⟩
          have hyb := HXB.out 0 0 (by omega) (by omega)
          rw [hy] at cR hyb
          have y0 := hyb.1
          have y1 := hyb.2
          have i1 : (0 : Int) < (h : Int) := by omega
          have i2 : (0 : Int) < (wd : Int) := by omega
          have i3 : 0 < h := by omega
          have i4 : 0 < wd := by omega
          have HO7 := Lib.hid hO7
          have HV := Lib.hid hv
          have HG7 := Lib.hid hg7
          have hz7 : w2.heap.size ≤ w7.heap.size := hg7.size
          clear q7 hO7 hv hy hyb hg7
          go_wp2_with fail
          go_region_with
            (first | (go_at_call 66; refine (pick_int _ _ (q + 1) 3 _ (hr7.below (below_drewN (Below.refl _ _) 1)) (by omega) (by omega) (by omega)).mono ?_; rintro e w9 ⟨k9, rfl, hk9, hr9, hg9, hz9⟩; have wk1 : IntKind.i64.wrap (y + (k9 : Int)) = y + (k9 : Int) := IntWalk.i64_in _ (by omega); have wk2 : IntKind.i64.wrap (y + (k9 : Int) - 1) = y + (k9 : Int) - 1 := IntWalk.i64_in _ (by omega); have cO9 : w9.cell? ⟨g, 0, none⟩ = some (.slice (some ⟨b, 0, none⟩) wd cap) := ((hg9.cell_far ⟨g, 0, none⟩ (by simp; omega) (by simp; omega)).trans cO); have cR9 : w9.cell? ⟨b, 0, none⟩ = some (.int .i64 y) := ((hg9.cell_far ⟨b, 0, none⟩ (by simp; omega) (by simp; omega)).trans cR); have fR9 : w9.frozen? ⟨b, 0, none⟩ = false := ((World.frozen?_of_block (hg9.block b (by simp; omega) (by simp; omega))).trans fR)))
          all_goals
            go_wp2_with fail
            have hg9' : w7.grownBy w9 (some w.heap.size) := ⟨hg9.os, hg9.tape, hg9.output, hg9.size, hg9.block⟩
            have hO9 := HO7.out.keep hg9'.size (fun i h1 h2 => hg9'.block i (Nat.lt_of_lt_of_le h2 HO7.out.hin) (fun e => by injection e with e; omega))
            obtain ⟨b2, cap2, hv2, -, -, -, -, -, -, -, hset⟩ := hO9.cell_ (i := 0) (j := 0) (by omega) (by omega)
            rw [HV.out] at hv2
            injection hv2 with hv2
            injection hv2 with hv2
            injection hv2 with hv2
            subst hv2
            have hlo2 := HLO.out
            go_ret3
            exact HEND.out _ _ (mkT_len _ _ _) (hset (y + (k9 : Int) - 1)).tab (grow_step (HG7.out.trans hg9') (w2 := w9.setCell ⟨b, 0, none⟩ (.int .i64 (y + (k9 : Int) - 1))) (row := some b) ⟨rfl, rfl, rfl, by simp [World.setCell], fun x hx hne => Below.heap_setCell _ _ _ x (fun e => hne (by rw [e]))⟩ (fun x e => .inr (by injection e with e; omega)))
      · have k0 : ((k : Int) == 0) = false := beq_eq_false_iff_ne.2 (by omega)
        clear hk0
        go_wp2_with fail
        go_ret3
        exact HEND.out x _ (by rw [HX5.out.len, HNT.out]) HO6.out.tab HG6.out
end Go.Proofs.Ytncnghmadeghlaa
