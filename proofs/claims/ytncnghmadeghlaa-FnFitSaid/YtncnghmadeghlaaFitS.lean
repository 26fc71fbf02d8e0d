/- FitTables of the reference. -/
import Derived.Test.YtncnghmadeghlaaFitW
import Derived.Test.YtncnghmadeghlaaGrid
import Derived.Test.YtncnghmadeghlaaSumsS
import Derived.Test.YtncnghmadeghlaaTailQ
namespace Go.Proofs.Ytncnghmadeghlaa
open Go.RowKit Go.BigFrame
set_option linter.unusedVariables false
theorem fitT_half {h wd : Nat} {G : Nat → Nat → Int} {M : Nat → Nat → Bool} (x : List (List Int)) (gd : Good h wd G) : fitT (mkT h wd G) (mkT h wd M) x = (shapeW h wd x && fitM h wd G M (cel 0 x)) := by
  rw [fitT, maskValid_mk gd, mkT_len, mkT_wid _ gd.h1, Bool.true_and, fitM_ext (fun i j hi hj => cel_mk hi hj) (fun i j hi hj => cel_mk hi hj) (fun _ _ _ _ => rfl)]
section
variable {h wd : Nat} {G : Nat → Nat → Int} {M : Nat → Nat → Bool} {x : List (List Int)}
theorem fitT_len (gd : Good h wd G) (hl : x.length ≠ h) : fitT (mkT h wd G) (mkT h wd M) x = false := by
  rw [fitT_half x gd, shapeW, decide_eq_false hl]; rfl
theorem fitT_row (gd : Good h wd G) {i : Nat} {r : List Int} (hr : x[i]? = some r) (hl : r.length ≠ wd) : fitT (mkT h wd G) (mkT h wd M) x = false := by
  have : x.all (fun r => decide (r.length = wd)) = false := by
    cases e : x.all (fun r => decide (r.length = wd))
    · rfl
    · have := List.all_eq_true.1 e r (List.mem_of_getElem? hr)
      exact absurd (by simpa using this) hl
  rw [fitT_half x gd, shapeW, this, Bool.and_false]; rfl
theorem fitT_cell (gd : Good h wd G) {i j : Nat} (hi : i < h) (hj : j < wd) (hb : cellFit (G i j) (M i j) (cel 0 x i j) = false) : fitT (mkT h wd G) (mkT h wd M) x = false := by
  rw [fitT_half x gd, fitM_cells (cellsFit_bad hi hj hb), Bool.and_false]
theorem fitT_end (gd : Good h wd G) (hl : x.length = h) (hr : ∀ (i : Nat) (r : List Int), i < h → x[i]? = some r → r.length = wd) (hc : ∀ i j, i < h → j < wd → cellFit (G i j) (M i j) (cel 0 x i j) = true) : fitT (mkT h wd G) (mkT h wd M) x = sumsFit h wd G (cel 0 x) := by
  have : x.all (fun r => decide (r.length = wd)) = true := by
    rw [List.all_eq_true]
    intro r hm
    obtain ⟨i, hi, e⟩ := List.mem_iff_getElem.1 hm
    have := hr i r (by omega) (by rw [List.getElem?_eq_getElem hi, e])
    simp [this]
  rw [fitT_half x gd, shapeW, decide_eq_true hl, this, fitM_sums (cellsFit_iff.2 hc)]; rfl
end
theorem sub_row_up (R : Nat → Int) (X : Nat → Nat → Int) (pre : List (Nat × Nat)) (i j : Nat) : up1 (fun a => R a - acc X (fun z => z.1 == a) pre) i (R i - acc X (fun z => z.1 == i) pre - X i j) = fun a => R a - acc X (fun z => z.1 == a) (pre ++ [(i, j)]) := by
  funext a
  rw [acc_snoc]
  by_cases h : a = i
  · subst h; simp [up1]; omega
  · simp [up1, h, show ¬ i = a from fun e => h e.symm]
theorem sub_col_up (C : Nat → Int) (X : Nat → Nat → Int) (pre : List (Nat × Nat)) (i j : Nat) : up1 (fun a => C a - acc X (fun z => z.2 == a) pre) j (C j - acc X (fun z => z.2 == j) pre - X i j) = fun a => C a - acc X (fun z => z.2 == a) (pre ++ [(i, j)]) := by
  funext a
  rw [acc_snoc]
  by_cases h : a = j
  · subst h; simp [up1]; omega
  · simp [up1, h, show ¬ j = a from fun e => h e.symm]
/-- all zero -/
def zeros (xs : List Int) : Bool := xs.all (· == 0)
theorem zeros_step {xs : List Int} {k : Nat} {x : Int} (h : xs[k]? = some x) : zeros (xs.drop k) = ((x == 0) && zeros (xs.drop (k + 1))) := by rw [drop_cons h]; rfl
theorem zeros_sub {n : Nat} {f g : Nat → Int} : zeros (mkL n fun i => f i - g i) = decide (mkL n f = mkL n g) := by
  rw [Bool.eq_iff_iff, zeros, List.all_eq_true, decide_eq_true_eq]
  constructor
  · intro H
    exact mkL_ext fun i hi => by
      have := H _ (mkL_mem.2 ⟨i, hi, rfl⟩)
      simp at this
      omega
  · intro H x hx
    obtain ⟨i, hi, rfl⟩ := mkL_mem.1 hx
    have := mkL_inj H hi
    simp; omega
set_option maxHeartbeats 400000 in
theorem l13Zero_any (A : Option Addr) (c : Nat) (xs : List Int) (w : World) (hx : Seq IntV w A xs) (hl : xs.length ≤ 1000) :
    Calls Try.prog 70 #[.slice A xs.length c] w fun e w' => e = .returned (.bool (zeros xs)) ∧ w = w' := by
  go_enter Try.func70, Try.ntmps70
  go_wp2_with fail
  go_loop [3] (fun i => ∃ k : Nat, k ≤ xs.length ∧ i = .int .i64 k ∧ Hid (zeros xs = zeros (xs.drop k))) (fun i => xs.length - (intOf i).toNat)
  case atStart => exact ⟨0, Nat.zero_le _, rfl, Lib.hid rfl⟩
  case round =>
    obtain ⟨k, hk, rfl, HP⟩ := hrel
    by_cases hlt : k < xs.length
    · obtain ⟨b, o, x, rfl, hb, hxk, hc⟩ := hx.at_ hlt
      have hs := zeros_step hxk
      by_cases h0 : x = 0
      · have h1 : (x != 0) = false := by simp [h0]
        have HS : Hid (zeros xs = zeros (xs.drop (k + 1))) := Lib.hid (by rw [HP.out, hs, h0]; rfl)
        clear hs hxk h0
        go_wp2_with fail
        go_round
        case rel => exact ⟨k + 1, by omega, by go_num, HS⟩
        case measure => simp [intOf]; omega
      · have h1 : (x != 0) = true := by simp [h0]
        have HS : Hid (zeros xs = false) := Lib.hid (by rw [HP.out, hs, beq_eq_false_iff_ne.2 h0]; rfl)
        clear hs hxk h0
        go_wp2_with fail
        go_ret
        exact ⟨ret_bool HS.out.symm, rfl⟩
    · go_wp2_with fail
      go_ret
      exact ⟨ret_bool (by rw [HP.out, List.drop_eq_nil_of_le (by omega)]; rfl), rfl⟩
set_option maxHeartbeats 400000 in
theorem specFit_no (A B C : Option Addr) (c d f : Nat) (t : List (List Int)) (m : List (List Bool)) (x : List (List Int)) (w : World) (hx : Tab IntV w A t) (hy : Tab BoolV w B m) (hl : t.length ≤ maxLen) (hm : m.length ≤ maxLen) (hv : maskValid t m = false) :
    Calls Try.prog 37 #[.slice A t.length c, .slice B m.length d, .slice C x.length f] w (Gives (.bool false) w) := by
  have hc := specMaskValid_any A B c d t m w hx hy hl hm
  rw [hv] at hc
  have HC := Lib.hid hc
  clear hc hv
  go_enter Try.func37, Try.ntmps37
  go_wp2_with fail
  refine HC.out.mono ?_
  rintro e w1 ⟨rfl, hq⟩
  go_wp2_with fail
  go_ret
  exact ⟨rfl, hq.below⟩
set_option maxHeartbeats 400000 in
theorem specFit_len (A B C : Option Addr) (c d f n h wd : Nat) (G : Nat → Nat → Int) (M : Nat → Nat → Bool) (w : World) (hx : Tab IntV w A (mkT h wd G)) (hy : Tab BoolV w B (mkT h wd M)) (gd : Good h wd G) (hn : n ≠ h) :
    Calls Try.prog 37 #[.slice A h c, .slice B h d, .slice C n f] w (Gives (.bool false) w) := by
  have h4 := gd.h4
  have hc := specMaskValid_any A B c d _ _ w hx hy (by rw [mkT_len]; unfold maxLen; omega) (by rw [mkT_len]; unfold maxLen; omega)
  rw [mkT_len, mkT_len, maskValid_mk gd] at hc
  have HC := Lib.hid hc
  have hne : ((n : Int) != (h : Int)) = true := by simp; omega
  clear hc
  go_enter Try.func37, Try.ntmps37
  go_wp2_with fail
  refine HC.out.mono ?_
  rintro e w1 ⟨rfl, hq⟩
  go_wp2_with fail
  go_ret
  exact ⟨rfl, hq.below⟩
theorem tcell {α : Type} {f : α → Value} {h wd i j b o : Nat} {F : Nat → Nat → α} {W : World} (ht : Tab f W (some ⟨b, o, none⟩) (mkT h wd F)) (hi : i < h) (hj : j < wd) : ∃ b' o' c, W.cell? ⟨b, o + i, none⟩ = some (.slice (some ⟨b', o', none⟩) wd c) ∧ W.cell? ⟨b', o' + j, none⟩ = some (f (F i j)) := by
  obtain ⟨b1, o1, b', o', c, e, -, h1, -, h2, -⟩ := ht.mk hi hj
  injection e with e
  injection e with e1 e2
  subst e1 e2
  exact ⟨b', o', c, h1, h2⟩
theorem xcell {wd k j b o : Nat} {x : List (List Int)} {r : List Int} {W : World} (ht : Tab IntV W (some ⟨b, o, none⟩) x) (hk : x[k]? = some r) (hr : r.length = wd) (hj : j < wd) : ∃ b' o' c, W.cell? ⟨b, o + k, none⟩ = some (.slice (some ⟨b', o', none⟩) wd c) ∧ W.cell? ⟨b', o' + j, none⟩ = some (.int .i64 (cel 0 x k j)) := by
  have hkl := (List.getElem?_eq_some_iff.1 hk).1
  obtain ⟨b1, o1, r1, Ar, c, e, -, h1, h2, hL⟩ := ht.at_ hkl
  rw [hk] at h1
  injection h1 with h1
  subst h1
  injection e with e
  injection e with e1 e2
  subst e1 e2
  obtain ⟨b', o', z, rfl, -, hz, hc⟩ := hL.1.at_ (k := j) (by omega)
  rw [hr] at h2
  exact ⟨b', o', c, h2, by rw [hc, cel_at hk hz]⟩
theorem xrow {k b o : Nat} {x : List (List Int)} {r : List Int} {W : World} (ht : Tab IntV W (some ⟨b, o, none⟩) x) (hk : x[k]? = some r) : ∃ A c, W.cell? ⟨b, o + k, none⟩ = some (.slice A r.length c) := by
  have hkl := (List.getElem?_eq_some_iff.1 hk).1
  obtain ⟨b1, o1, r1, Ar, c, e, -, h1, h2, hL⟩ := ht.at_ hkl
  rw [hk] at h1
  injection h1 with h1
  subst h1
  injection e with e
  injection e with e1 e2
  subst e1 e2
  exact ⟨Ar, c, h2⟩
/-- between two cells -/
structure FitR (w : World) (lo h wd : Nat) (R C : Nat → Int) (G : Nat → Nat → Int) (M : Nat → Nat → Bool) (X : Nat → Nat → Int) (A B : Option Addr) (cr cc : Nat) (pre : List (Nat × Nat)) (W : World) : Prop where
  rows : W.ownsRow lo 3 1 (.slice A h cr) h ((mkL h fun a => R a - acc X (fun z => z.1 == a) pre).map IntV)
  cols : W.ownsRow lo 3 1 (.slice B wd cc) wd ((mkL wd fun a => C a - acc X (fun z => z.2 == a) pre).map IntV)
  bel : Below w.heap.size w W
  ok : ∀ q ∈ pre, cellFit (G q.1 q.2) (M q.1 q.2) (X q.1 q.2) = true
set_option maxRecDepth 100000 in
set_option maxHeartbeats 4000000 in
theorem specFit_yes (A B C : Option Addr) (c d f h wd : Nat) (G : Nat → Nat → Int) (M : Nat → Nat → Bool) (x : List (List Int)) (w : World) (hx : Tab IntV w A (mkT h wd G)) (hy : Tab BoolV w B (mkT h wd M)) (hz : Tab IntV w C x) (gd : Good h wd G) (hl : x.length = h) :
    Calls Try.prog 37 #[.slice A h c, .slice B h d, .slice C h f] w (Gives (.bool (fitT (mkT h wd G) (mkT h wd M) x)) w) := by
  have h4 := gd.h4
  have h1 := gd.h1
  have w1' := gd.w1
  have w4 := gd.w4
  have hc := specMaskValid_any A B c d _ _ w hx hy (by rw [mkT_len]; unfold maxLen; omega) (by rw [mkT_len]; unfold maxLen; omega)
  rw [mkT_len, mkT_len, maskValid_mk gd] at hc
  have HC := Lib.hid hc
  have HX := Lib.hid hx
  have HY := Lib.hid hy
  have HZ := Lib.hid hz
  have HGD := Lib.hid gd
  have HL := Lib.hid hl
  obtain ⟨mb, mp, _, _, rfl, -⟩ := hy.mkrow h1
  have hmx : Try.prog.follows .mixedOrders = true := by kernel_rfl
  have hR : ∀ a, 0 ≤ sumN wd (G a) ∧ sumN wd (G a) ≤ 400 := fun a => by
    have q1 := sumN_nonneg (n := wd) (f := G a) fun j _ => gd.lo a j
    have q2 := sumN_max (n := wd) (f := G a) (c := 99) fun j _ => gd.hi a j
    omega
  have hC : ∀ a, 0 ≤ sumN h (fun i => G i a) ∧ sumN h (fun i => G i a) ≤ 400 := fun a => by
    have q1 := sumN_nonneg (n := h) (f := fun i => G i a) fun i _ => gd.lo i a
    have q2 := sumN_max (n := h) (f := fun i => G i a) (c := 99) fun i _ => gd.hi i a
    omega
  have HRB := Lib.hid hR
  have HCB := Lib.hid hC
  clear hc hx hy hz gd hl hR hC
  go_enter Try.func37, Try.ntmps37
  go_wp2_with fail
  refine HC.out.mono ?_
  rintro e w1 ⟨rfl, hq1⟩
  have hb1 := hq1.below
  have HB1 := Lib.hid hb1
  clear hq1 hb1 HC
  go_wp2_with fail
  refine (specSums_yes A c h wd G w1 (HX.out.below HB1.out) HGD.out).mono ?_
  rintro e w2 ⟨Ar, cr, Bc, cc, rfl, o2, p2, hdis, hb2⟩
  rw [show (rowL h wd G).length = h from mkL_len _ _] at o2 hdis ⊢
  rw [show (colL h wd G).length = wd from mkL_len _ _] at p2 hdis ⊢
  obtain ⟨lo, hlo⟩ : ∃ lo, lo = w1.heap.size := ⟨_, rfl⟩
  have hlw : w.heap.size ≤ lo := by rw [hlo]; exact HB1.out.size
  rw [← hlo] at o2 p2
  have HI : Hid (FitR w lo h wd (fun a => sumN wd (G a)) (fun b => sumN h fun i => G i b) G M (cel 0 x) Ar Bc cr cc (cp wd 0 0) w2) := Lib.hid ⟨by simpa [cp, acc, rowL] using o2, by simpa [cp, acc, colL] using p2, HB1.out.trans (hb2.mono HB1.out.size), by simp [cp]⟩
  obtain ⟨rb, _, er, -, -⟩ := o2.form (by omega)
  obtain ⟨cb, _, ec, -, -⟩ := p2.form (by omega)
  injection er with er _ er3
  injection ec with ec _ ec3
  subst er ec er3 ec3
  have hrc : cb ≠ rb := fun e => hdis rb rfl (by rw [e]; rfl)
  clear o2 p2 hdis hb2 hlo
  go_wp2_with fail
  go_loopw [10] (fun i wr => ∃ k : Nat, k ≤ h ∧ i = .int .i64 k ∧ Hid (FitR w lo h wd (fun a => sumN wd (G a)) (fun b => sumN h fun i => G i b) G M (cel 0 x) (some ⟨rb, 0, none⟩) (some ⟨cb, 0, none⟩) cr cc (cp wd k 0) wr) ∧ Hid (∀ (i : Nat) (r : List Int), i < k → x[i]? = some r → r.length = wd)) (fun i _ => h - (intOf i).toNat)
  case atStart => exact ⟨0, Nat.zero_le _, rfl, HI, Lib.hid (fun i r hi => absurd hi (by omega))⟩
  case round =>
    clear HI
    obtain ⟨k, hk, rfl, HF, HLN⟩ := hrel
    obtain ⟨wo, rfl⟩ : ∃ wo : World, wo = wr := ⟨_, rfl⟩
    by_cases hlt : k < h
    · obtain ⟨xb, xo, r, Ax, cx, rfl, hxb, hxr, hxc, hxl⟩ := (HZ.out.below HF.out.bel).at_ (k := k) (by rw [HL.out]; exact hlt)
      obtain ⟨tb, tp, rfl, tr, tq, tc, hgT⟩ := (HX.out.below HF.out.bel).grid (by omega) (by omega)
      have r0 := hgT.row 0 (by omega)
      simp only [Nat.add_zero] at r0
      have HXR := Lib.hid hxr
      have i1 : (k : Int) < (h : Int) := by omega
      clear hgT hxr
      by_cases hrl : r.length = wd
      · have f1 : ((r.length : Int) != (wd : Int)) = false := by simp; omega
        have HRL := Lib.hid hrl
        have HLN' : Hid (∀ (i : Nat) (r : List Int), i < k + 1 → x[i]? = some r → r.length = wd) := Lib.hid fun i r' hi hr' => by
          by_cases e : i = k
          · subst e; rw [HXR.out] at hr'; injection hr' with hr'; rw [← hr', HRL.out]
          · exact HLN.out i r' (by omega) hr'
        clear hrl hxl
        go_wp2_with fail
        go_quiet (fail)
        have HF2 : ∀ n, Hid (FitR w lo h wd (fun a => sumN wd (G a)) (fun b => sumN h fun i => G i b) G M (cel 0 x) (some ⟨rb, 0, none⟩) (some ⟨cb, 0, none⟩) cr cc (cp wd k 0) (wo.drewN n)) := fun n => Lib.hid ⟨own_below HF.out.rows (below_drewN (Below.refl _ _) n), own_below HF.out.cols (below_drewN (Below.refl _ _) n), below_drewN HF.out.bel n, HF.out.ok⟩
        go_wp2_with fail
        go_loopw [11] (fun i wr => ∃ j : Nat, j ≤ wd ∧ i = .int .i64 j ∧ Hid (FitR w lo h wd (fun a => sumN wd (G a)) (fun b => sumN h fun i => G i b) G M (cel 0 x) (some ⟨rb, 0, none⟩) (some ⟨cb, 0, none⟩) cr cc (cp wd k j) wr)) (fun i _ => wd - (intOf i).toNat)
        case atStart => exact ⟨0, Nat.zero_le _, rfl, HF2 _⟩
        case round =>
          clear HF2 HF r0 hxc f1
          obtain ⟨j, hj', rfl, HF⟩ := hrel
          obtain ⟨W, rfl⟩ : ∃ W : World, W = wr := ⟨_, rfl⟩
          have i2 : (k : Int) < (h : Int) := by omega
          by_cases hj : j < wd
          · obtain ⟨xrb, xro, xrc, x1, x2⟩ := xcell (HZ.out.below HF.out.bel) HXR.out HRL.out hj
            obtain ⟨trb, tro, trc, t1, t2⟩ := tcell (HX.out.below HF.out.bel) hlt hj
            obtain ⟨mrb, mro, mrc, m1, m2⟩ := tcell (HY.out.below HF.out.bel) hlt hj
            simp only [IntV] at t2
            simp only [BoolV] at m2
            obtain ⟨y, hy⟩ : ∃ y, cel 0 x k j = y := ⟨_, rfl⟩
            obtain ⟨g, hg⟩ : ∃ g, G k j = g := ⟨_, rfl⟩
            obtain ⟨m, hm⟩ : ∃ m, M k j = m := ⟨_, rfl⟩
            rw [hy] at x2
            rw [hg] at t2
            rw [hm] at m2
            have j1 : (j : Int) < (wd : Int) := by omega
            have hbad : cellFit g m y = false → fitT (mkT h wd G) (mkT h wd M) x = false := fun e => fitT_cell HGD.out hlt hj (by rw [hg, hm, hy]; exact e)
            have HBAD := Lib.hid hbad
            have HCF : Hid (cellFit g m y = cellFit (G k j) (M k j) (cel 0 x k j)) := Lib.hid (by rw [hg, hm, hy])
            have HYY := Lib.hid hy
            have hcase : (y < 0 ∧ cellFit g m y = false) ∨ ((decide (y < 0) = false ∧ 396 < y) ∧ cellFit g m y = false) ∨ ((decide (y < 0) = false ∧ decide (396 < y) = false) ∧ m = true ∧ (0 ≤ y ∧ y ≤ 396) ∧ cellFit g m y = true) ∨ ((decide (y < 0) = false ∧ decide (396 < y) = false) ∧ m = false ∧ (y != g) = false ∧ (0 ≤ y ∧ y ≤ 396) ∧ cellFit g m y = true) ∨ ((decide (y < 0) = false ∧ decide (396 < y) = false) ∧ m = false ∧ (y != g) = true ∧ cellFit g m y = false) := by
              by_cases q1 : y < 0
              · exact .inl ⟨q1, by simp [cellFit, show ¬ 0 ≤ y by omega]⟩
              · by_cases q2 : 396 < y
                · exact .inr (.inl ⟨⟨decide_eq_false q1, q2⟩, by simp [cellFit, show ¬ y ≤ 396 by omega]⟩)
                · have q3 : 0 ≤ y := by omega
                  have q4 : y ≤ 396 := by omega
                  cases m
                  · by_cases q5 : y = g
                    · exact .inr (.inr (.inr (.inl ⟨⟨decide_eq_false q1, decide_eq_false q2⟩, rfl, by simp [q5], ⟨q3, q4⟩, by simp [cellFit, q5]; omega⟩)))
                    · exact .inr (.inr (.inr (.inr ⟨⟨decide_eq_false q1, decide_eq_false q2⟩, rfl, by simp [q5], by simp [cellFit, q5]⟩)))
                  · exact .inr (.inr (.inl ⟨⟨decide_eq_false q1, decide_eq_false q2⟩, rfl, ⟨q3, q4⟩, by simp [cellFit, q3, q4]⟩))
            clear hy hg hm hbad
            rcases hcase with ⟨q1, q9⟩ | ⟨⟨q1, q2⟩, q9⟩ | ⟨⟨q1, q2⟩, rfl, ⟨q5, q6⟩, q9⟩ | ⟨⟨q1, q2⟩, rfl, q3, ⟨q5, q6⟩, q9⟩ | ⟨⟨q1, q2⟩, rfl, q3, q9⟩
            · as_aux_lemma =>
              have HC9 := Lib.hid (HBAD.out q9)
              have hb9 := HF.out.bel
              clear q9
              go_wp2_with fail
              go_quiet (fail)
              go_wp2_with fail
              go_ret
              exact ⟨by rw [HC9.out]; rfl, below_drewN hb9 _⟩
            · as_aux_lemma =>
              have HC9 := Lib.hid (HBAD.out q9)
              have hb9 := HF.out.bel
              clear q9
              go_wp2_with fail
              go_quiet (fail)
              go_wp2_with fail
              go_ret
              exact ⟨by rw [HC9.out]; rfl, below_drewN hb9 _⟩
            · as_aux_lemma =>
              have HC9 := Lib.hid (HCF.out.symm.trans q9)
              clear q9
              go_wp2_with fail
              go_quiet (fail)
              obtain ⟨V, hV⟩ : ∃ V : World, V = W.drewN nq := ⟨_, rfl⟩
              rw [← hV]
              have HFV : Hid (FitR w lo h wd (fun a => sumN wd (G a)) (fun b => sumN h fun i => G i b) G M (cel 0 x) (some ⟨rb, 0, none⟩) (some ⟨cb, 0, none⟩) cr cc (cp wd k j) V) := Lib.hid (by
                rw [hV]
                exact ⟨own_below HF.out.rows (below_drewN (Below.refl _ _) nq), own_below HF.out.cols (below_drewN (Below.refl _ _) nq), below_drewN HF.out.bel nq, HF.out.ok⟩)
              clear x1 x2 t1 t2 m1 m2 hV HF q1 q2
              obtain ⟨xrb, xro, xrc, x1, x2⟩ := xcell (HZ.out.below HFV.out.bel) HXR.out HRL.out hj
              rw [HYY.out] at x2
              have hl16 : (cp wd k j).length ≤ 16 := by
                rw [cp_len]
                have : k * wd ≤ 3 * 4 := Nat.mul_le_mul (by omega) w4
                omega
              have hob : ∀ p : Nat × Nat → Bool, 0 ≤ acc (cel 0 x) p (cp wd k j) ∧ acc (cel 0 x) p (cp wd k j) ≤ 6400 := fun p => by
                have := acc_bound (v := cel 0 x) (p := p) (M := 396) (by omega) (pre := cp wd k j) (fun q hq => by
                  have := cellFit_iff.1 (HFV.out.ok q hq); omega)
                omega
              obtain ⟨u, hu, u0, u1⟩ : ∃ u : Int, sumN wd (G k) - acc (cel 0 x) (fun z => z.1 == k) (cp wd k j) = u ∧ -6400 ≤ u ∧ u ≤ 400 := ⟨_, rfl, by have := HRB.out k; have := hob (fun z => z.1 == k); omega, by have := HRB.out k; have := hob (fun z => z.1 == k); omega⟩
              obtain ⟨v, hv, v0, v1⟩ : ∃ v : Int, (sumN h fun i => G i j) - acc (cel 0 x) (fun z => z.2 == j) (cp wd k j) = v ∧ -6400 ≤ v ∧ v ≤ 400 := ⟨_, rfl, by have := HCB.out j; have := hob (fun z => z.2 == j); omega, by have := HCB.out j; have := hob (fun z => z.2 == j); omega⟩
              obtain ⟨rb1, er1, rl1, rl2, rc1, rf1, rset⟩ := own_mk HFV.out.rows hlt
              injection er1 with er1
              injection er1 with er1
              subst er1
              have rs := rset (u - y)
              rw [← hu, ← HYY.out, sub_row_up, ← cp_step, hu, HYY.out] at rs
              rw [hu] at rc1
              simp only [IntV] at rc1
              have wuy : IntKind.i64.wrap (u - y) = u - y := IntWalk.i64_in _ (by omega)
              have wvy : IntKind.i64.wrap (v - y) = v - y := IntWalk.i64_in _ (by omega)
              obtain ⟨V1, hV1⟩ : ∃ V1 : World, V1 = (V.setCell ⟨rb, k, none⟩ (.int .i64 (u - y))).drew := ⟨_, rfl⟩
              have R1 : V1.ownsRow lo 3 1 (.slice (some ⟨rb, 0, none⟩) h cr) h ((mkL h fun a => sumN wd (G a) - acc (cel 0 x) (fun z => z.1 == a) (cp wd k (j + 1))).map IntV) := by rw [hV1]; exact own_below rs (below_drewN (Below.refl _ _) 1)
              have C1 : V1.ownsRow lo 3 1 (.slice (some ⟨cb, 0, none⟩) wd cc) wd ((mkL wd fun a => (sumN h fun i => G i a) - acc (cel 0 x) (fun z => z.2 == a) (cp wd k j)).map IntV) := by
                rw [hV1]
                refine own_below (own_keep HFV.out.cols fun b hb => Below.heap_setCell V _ _ b ?_) (below_drewN (Below.refl _ _) 1)
                intro e
                simp [Value.ownBlock] at hb e
                omega
              have B1 : Below w.heap.size w V1 := by rw [hV1]; exact (HFV.out.bel.setCell (p := ⟨rb, k, none⟩) (Nat.le_trans hlw rl1) _).drew
              have HR1 := Lib.hid R1
              have HC1 := Lib.hid C1
              have HB1' := Lib.hid B1
              have HV1 := Lib.hid hV1
              have HV := Lib.hid hv
              have HOK := Lib.hid HFV.out.ok
              have WV := Lib.hid wvy
              clear R1 C1 B1 hu hv rs rset hV1 hob hl16 HFV rl1 rl2 wvy
              go_wp2_with fail
              refine tail_Q 15 hmx (by kernel_rfl) ?_
              simp only [List.take_succ_cons, List.take_zero, List.drop_succ_cons, List.drop_zero]
              repeat (first | go_big_quiet_skip | (go_big_quiet_want; go_big_quiet_op; go_big_quiet_on))
              refine wpQuiet_nil ?_
              go_upto_region 15 with (fail)
              rw [← HV1.out]
              clear x1 x2 rc1 rf1 wuy HV1
              obtain ⟨xrb, xro, xrc, x1, x2⟩ := xcell (HZ.out.below HB1'.out) HXR.out HRL.out hj
              rw [HYY.out] at x2
              obtain ⟨cb1, ec1, cl1, cl2, cc1, cf1, cset⟩ := own_mk HC1.out hj
              injection ec1 with ec1
              injection ec1 with ec1
              subst ec1
              have cs := cset (v - y)
              rw [← HV.out, ← HYY.out, sub_col_up, ← cp_step, HV.out, HYY.out] at cs
              rw [HV.out] at cc1
              simp only [IntV] at cc1
              have wvy := WV.out
              have HF2 : Hid (FitR w lo h wd (fun a => sumN wd (G a)) (fun b => sumN h fun i => G i b) G M (cel 0 x) (some ⟨rb, 0, none⟩) (some ⟨cb, 0, none⟩) cr cc (cp wd k (j + 1)) (V1.setCell ⟨cb, j, none⟩ (.int .i64 (v - y))).drew) := Lib.hid ⟨by
                refine own_below (own_keep HR1.out fun b hb => Below.heap_setCell V1 _ _ b ?_) (below_drewN (Below.refl _ _) 1)
                intro e
                simp [Value.ownBlock] at hb e
                omega, own_below cs (below_drewN (Below.refl _ _) 1), (HB1'.out.setCell (p := ⟨cb, j, none⟩) (Nat.le_trans hlw cl1) _).drew, fun q hq => by
                rw [cp_step] at hq
                rcases List.mem_append.1 hq with hq | hq
                · exact HOK.out q hq
                · simp at hq; subst hq; exact HC9.out⟩
              clear cs cset cl1 cl2
              refine tail_Q 15 hmx (by kernel_rfl) ?_
              simp only [List.take_succ_cons, List.take_zero, List.drop_succ_cons, List.drop_zero]
              repeat (first | go_big_quiet_skip | (go_big_quiet_want; go_big_quiet_op; go_big_quiet_on))
              refine wpQuiet_nil ?_
              clear wvy
              go_wp2_with fail
              go_roundw
              case rel => exact ⟨j + 1, by omega, by go_num, HF2⟩
              case measure => simp [intOf]; omega
            · as_aux_lemma =>
              have HC9 := Lib.hid (HCF.out.symm.trans q9)
              clear q9
              go_wp2_with fail
              go_quiet (fail)
              obtain ⟨V, hV⟩ : ∃ V : World, V = W.drewN nq := ⟨_, rfl⟩
              rw [← hV]
              have HFV : Hid (FitR w lo h wd (fun a => sumN wd (G a)) (fun b => sumN h fun i => G i b) G M (cel 0 x) (some ⟨rb, 0, none⟩) (some ⟨cb, 0, none⟩) cr cc (cp wd k j) V) := Lib.hid (by
                rw [hV]
                exact ⟨own_below HF.out.rows (below_drewN (Below.refl _ _) nq), own_below HF.out.cols (below_drewN (Below.refl _ _) nq), below_drewN HF.out.bel nq, HF.out.ok⟩)
              clear x1 x2 t1 t2 m1 m2 hV HF q1 q2
              obtain ⟨xrb, xro, xrc, x1, x2⟩ := xcell (HZ.out.below HFV.out.bel) HXR.out HRL.out hj
              rw [HYY.out] at x2
              have hl16 : (cp wd k j).length ≤ 16 := by
                rw [cp_len]
                have : k * wd ≤ 3 * 4 := Nat.mul_le_mul (by omega) w4
                omega
              have hob : ∀ p : Nat × Nat → Bool, 0 ≤ acc (cel 0 x) p (cp wd k j) ∧ acc (cel 0 x) p (cp wd k j) ≤ 6400 := fun p => by
                have := acc_bound (v := cel 0 x) (p := p) (M := 396) (by omega) (pre := cp wd k j) (fun q hq => by
                  have := cellFit_iff.1 (HFV.out.ok q hq); omega)
                omega
              obtain ⟨u, hu, u0, u1⟩ : ∃ u : Int, sumN wd (G k) - acc (cel 0 x) (fun z => z.1 == k) (cp wd k j) = u ∧ -6400 ≤ u ∧ u ≤ 400 := ⟨_, rfl, by have := HRB.out k; have := hob (fun z => z.1 == k); omega, by have := HRB.out k; have := hob (fun z => z.1 == k); omega⟩
              obtain ⟨v, hv, v0, v1⟩ : ∃ v : Int, (sumN h fun i => G i j) - acc (cel 0 x) (fun z => z.2 == j) (cp wd k j) = v ∧ -6400 ≤ v ∧ v ≤ 400 := ⟨_, rfl, by have := HCB.out j; have := hob (fun z => z.2 == j); omega, by have := HCB.out j; have := hob (fun z => z.2 == j); omega⟩
              obtain ⟨rb1, er1, rl1, rl2, rc1, rf1, rset⟩ := own_mk HFV.out.rows hlt
              injection er1 with er1
              injection er1 with er1
              subst er1
              have rs := rset (u - y)
              rw [← hu, ← HYY.out, sub_row_up, ← cp_step, hu, HYY.out] at rs
              rw [hu] at rc1
              simp only [IntV] at rc1
              have wuy : IntKind.i64.wrap (u - y) = u - y := IntWalk.i64_in _ (by omega)
              have wvy : IntKind.i64.wrap (v - y) = v - y := IntWalk.i64_in _ (by omega)
              obtain ⟨V1, hV1⟩ : ∃ V1 : World, V1 = (V.setCell ⟨rb, k, none⟩ (.int .i64 (u - y))).drew := ⟨_, rfl⟩
              have R1 : V1.ownsRow lo 3 1 (.slice (some ⟨rb, 0, none⟩) h cr) h ((mkL h fun a => sumN wd (G a) - acc (cel 0 x) (fun z => z.1 == a) (cp wd k (j + 1))).map IntV) := by rw [hV1]; exact own_below rs (below_drewN (Below.refl _ _) 1)
              have C1 : V1.ownsRow lo 3 1 (.slice (some ⟨cb, 0, none⟩) wd cc) wd ((mkL wd fun a => (sumN h fun i => G i a) - acc (cel 0 x) (fun z => z.2 == a) (cp wd k j)).map IntV) := by
                rw [hV1]
                refine own_below (own_keep HFV.out.cols fun b hb => Below.heap_setCell V _ _ b ?_) (below_drewN (Below.refl _ _) 1)
                intro e
                simp [Value.ownBlock] at hb e
                omega
              have B1 : Below w.heap.size w V1 := by rw [hV1]; exact (HFV.out.bel.setCell (p := ⟨rb, k, none⟩) (Nat.le_trans hlw rl1) _).drew
              have HR1 := Lib.hid R1
              have HC1 := Lib.hid C1
              have HB1' := Lib.hid B1
              have HV1 := Lib.hid hV1
              have HV := Lib.hid hv
              have HOK := Lib.hid HFV.out.ok
              have WV := Lib.hid wvy
              clear R1 C1 B1 hu hv rs rset hV1 hob hl16 HFV rl1 rl2 wvy
              go_wp2_with fail
              refine tail_Q 15 hmx (by kernel_rfl) ?_
              simp only [List.take_succ_cons, List.take_zero, List.drop_succ_cons, List.drop_zero]
              repeat (first | go_big_quiet_skip | (go_big_quiet_want; go_big_quiet_op; go_big_quiet_on))
              refine wpQuiet_nil ?_
              go_upto_region 15 with (fail)
              rw [← HV1.out]
              clear x1 x2 rc1 rf1 wuy HV1
              obtain ⟨xrb, xro, xrc, x1, x2⟩ := xcell (HZ.out.below HB1'.out) HXR.out HRL.out hj
              rw [HYY.out] at x2
              obtain ⟨cb1, ec1, cl1, cl2, cc1, cf1, cset⟩ := own_mk HC1.out hj
              injection ec1 with ec1
              injection ec1 with ec1
              subst ec1
              have cs := cset (v - y)
              rw [← HV.out, ← HYY.out, sub_col_up, ← cp_step, HV.out, HYY.out] at cs
              rw [HV.out] at cc1
              simp only [IntV] at cc1
              have wvy := WV.out
              have HF2 : Hid (FitR w lo h wd (fun a => sumN wd (G a)) (fun b => sumN h fun i => G i b) G M (cel 0 x) (some ⟨rb, 0, none⟩) (some ⟨cb, 0, none⟩) cr cc (cp wd k (j + 1)) (V1.setCell ⟨cb, j, none⟩ (.int .i64 (v - y))).drew) := Lib.hid ⟨by
                refine own_below (own_keep HR1.out fun b hb => Below.heap_setCell V1 _ _ b ?_) (below_drewN (Below.refl _ _) 1)
                intro e
                simp [Value.ownBlock] at hb e
                omega, own_below cs (below_drewN (Below.refl _ _) 1), (HB1'.out.setCell (p := ⟨cb, j, none⟩) (Nat.le_trans hlw cl1) _).drew, fun q hq => by
                rw [cp_step] at hq
                rcases List.mem_append.1 hq with hq | hq
                · exact HOK.out q hq
                · simp at hq; subst hq; exact HC9.out⟩
              clear cs cset cl1 cl2
              refine tail_Q 15 hmx (by kernel_rfl) ?_
              simp only [List.take_succ_cons, List.take_zero, List.drop_succ_cons, List.drop_zero]
              repeat (first | go_big_quiet_skip | (go_big_quiet_want; go_big_quiet_op; go_big_quiet_on))
              refine wpQuiet_nil ?_
              clear wvy
              go_wp2_with fail
              go_roundw
              case rel => exact ⟨j + 1, by omega, by go_num, HF2⟩
              case measure => simp [intOf]; omega
            · as_aux_lemma =>
              have HC9 := Lib.hid (HBAD.out q9)
              have hb9 := HF.out.bel
              clear q9
              go_wp2_with fail
              go_quiet (fail)
              go_wp2_with fail
              go_ret
              exact ⟨by rw [HC9.out]; rfl, below_drewN hb9 _⟩
          · obtain rfl : j = wd := by omega
            obtain ⟨Ay, cy, x1⟩ := xrow (HZ.out.below HF.out.bel) HXR.out
            rw [HRL.out] at x1
            have HF3 : Hid (FitR w lo h j (fun a => sumN j (G a)) (fun b => sumN h fun i => G i b) G M (cel 0 x) (some ⟨rb, 0, none⟩) (some ⟨cb, 0, none⟩) cr cc (cp j (k + 1) 0) W) := Lib.hid (by rw [← cp_next]; exact HF.out)
            go_wp2_with fail
            go_roundw
            case rel => exact ⟨k + 1, by omega, by go_num, HF3, HLN'⟩
            case measure => simp [intOf]; omega
      · have f1 : ((r.length : Int) != (wd : Int)) = true := by simp; omega
        have HFT := Lib.hid (fitT_row (M := M) HGD.out HXR.out hrl)
        have hb9 := HF.out.bel
        clear hrl hxl
        go_wp2_with fail
        go_quiet (fail)
        go_wp2_with fail
        go_ret
        exact ⟨by rw [HFT.out]; rfl, below_drewN hb9 _⟩
    · obtain rfl : k = h := by omega
      have hokc : ∀ i j, i < k → j < wd → cellFit (G i j) (M i j) (cel 0 x i j) = true := fun i j hi hj => HF.out.ok (i, j) (cp_mem.2 (.inl ⟨hi, hj⟩))
      have hft := fitT_end HGD.out HL.out HLN.out hokc
      have er : (mkL k fun a => sumN wd (G a) - acc (cel 0 x) (fun z => z.1 == a) (cp wd k 0)) = mkL k fun a => sumN wd (G a) - sumN wd (cel 0 x a) := mkL_ext fun a ha => by rw [acc_row, if_pos ha]
      have ec : (mkL wd fun a => (sumN k fun i => G i a) - acc (cel 0 x) (fun z => z.2 == a) (cp wd k 0)) = mkL wd fun a => (sumN k fun i => G i a) - sumN k (fun i => cel 0 x i a) := mkL_ext fun a ha => by rw [acc_col _ _ _ ha _ _ (Nat.zero_le _)]; simp
      have hr1 := HF.out.rows
      have hc1 := HF.out.cols
      rw [er] at hr1
      rw [ec] at hc1
      have z1 := l13Zero_any (some ⟨rb, 0, none⟩) cr _ wo (Seq.of_own hr1) (by rw [mkL_len]; omega)
      have z2 := l13Zero_any (some ⟨cb, 0, none⟩) cc _ wo (Seq.of_own hc1) (by rw [mkL_len]; omega)
      rw [mkL_len, zeros_sub] at z1 z2
      have hsf : sumsFit k wd G (cel 0 x) = (decide ((mkL k fun a => sumN wd (G a)) = mkL k fun a => sumN wd (cel 0 x a)) && decide ((mkL wd fun a => sumN k fun i => G i a) = mkL wd fun a => sumN k fun i => cel 0 x i a)) := rfl
      obtain ⟨r1, e1⟩ : ∃ r, decide ((mkL k fun a => sumN wd (G a)) = mkL k fun a => sumN wd (cel 0 x a)) = r := ⟨_, rfl⟩
      obtain ⟨r2, e2⟩ : ∃ r, decide ((mkL wd fun a => sumN k fun i => G i a) = mkL wd fun a => sumN k fun i => cel 0 x i a) = r := ⟨_, rfl⟩
      rw [e1] at z1
      rw [e2] at z2
      rw [e1, e2] at hsf
      have HFT := Lib.hid (hft.trans hsf)
      have HZ1 := Lib.hid z1
      have HZ2 := Lib.hid z2
      have hb9 := HF.out.bel
      clear hokc hft er ec hr1 hc1 z1 z2 hsf e1 e2
      cases r1
      · go_wp2_with fail
        refine HZ1.out.mono ?_
        rintro e w' ⟨rfl, rfl⟩
        go_wp2_with fail
        go_ret
        exact ⟨by rw [HFT.out]; rfl, hb9⟩
      · go_wp2_with fail
        refine HZ1.out.mono ?_
        rintro e w' ⟨rfl, rfl⟩
        go_wp2_with fail
        refine HZ2.out.mono ?_
        rintro e w' ⟨rfl, rfl⟩
        go_wp2_with fail
        go_ret
        exact ⟨by rw [HFT.out]; rfl, hb9⟩
theorem specFit_any (A B C : Option Addr) (c d f : Nat) (t : List (List Int)) (m : List (List Bool)) (x : List (List Int)) (w : World) (hx : Tab IntV w A t) (hy : Tab BoolV w B m) (hz : Tab IntV w C x) (hl : t.length ≤ maxLen) (hm : m.length ≤ maxLen) :
    Calls Try.prog 37 #[.slice A t.length c, .slice B m.length d, .slice C x.length f] w (Gives (.bool (fitT t m x)) w) := by
  rcases mask_cases t m with hv | ⟨h, wd, G, M, rfl, gd, rfl⟩
  · have e : fitT t m x = false := by rw [fitT, hv]; rfl
    rw [e]
    exact specFit_no A B C c d f t m x w hx hy hl hm hv
  · rw [mkT_len, mkT_len]
    by_cases hn : x.length = h
    · rw [hn]
      exact specFit_yes A B C c d f h wd G M x w hx hy hz gd hn
    · rw [fitT_len gd hn]
      exact specFit_len A B C c d f x.length h wd G M w hx hy gd hn
end Go.Proofs.Ytncnghmadeghlaa
