/- FitTables of the program. -/
import Derived.Test.YtncnghmadeghlaaFitW
import Derived.Test.YtncnghmadeghlaaEqualS
import Derived.Test.YtncnghmadeghlaaGrid
import Derived.Test.YtncnghmadeghlaaCells
import Derived.Test.YtncnghmadeghlaaTailQ
import Derived.Sort.CutIn
import Derived.RegionIn
import Derived.BigRegionIn
namespace Go.Proofs.Ytncnghmadeghlaa
open Go.RowKit Go.Shelf Go.BigFrame
set_option linter.unusedVariables false
attribute [local go_sem] Oper.semAt_some
set_option maxHeartbeats 800000 in
theorem implFit_no (A B C : Option Addr) (c d f : Nat) (t : List (List Int)) (m : List (List Bool)) (x : List (List Int)) (w : World) (hx : Tab IntV w A t) (hy : Tab BoolV w B m) (hl : t.length ≤ maxLen) (hm : m.length ≤ maxLen) (hv : maskValid t m = false) :
    Calls Try.prog 39 #[.slice A t.length c, .slice B m.length d, .slice C x.length f] w (Gives (.bool false) w) := by
  have hb : Below w.heap.size w ((((w.alloc (.cells #[.slice A t.length c] 24)).alloc (.cells #[.slice B m.length d] 52)).alloc (.cells #[.slice C x.length f] 24)).alloc (.cells #[.bool false] 4)) := ((((Below.refl _ _).alloc (Nat.le_refl _) _).alloc (by simp) _).alloc (by simp; omega) _).alloc (by simp; omega) _
  have hc := implMaskValid_any A B c d t m _ (hx.below hb) (hy.below hb) hl hm
  rw [hv] at hc
  have HC := Lib.hid hc
  have HB := Lib.hid hb
  clear hc hb hx hy hv
  go_enter Try.func39, Try.ntmps39
  go_wp2_with fail
  refine HC.out.mono ?_
  rintro e w1 ⟨rfl, rfl⟩
  go_wp2_with fail
  exact bodyPost_ret (v := .bool false) (by simp [results, Try.f39, go_sem]) rfl ⟨rfl, HB.out⟩
set_option maxHeartbeats 800000 in
theorem implFit_shape (A B C : Option Addr) (c d f h wd : Nat) (G : Nat → Nat → Int) (M : Nat → Nat → Bool) (x : List (List Int)) (w : World) (hx : Tab IntV w A (mkT h wd G)) (hy : Tab BoolV w B (mkT h wd M)) (hz : Tab IntV w C x) (gd : Good h wd G) (hs : shapeW h wd x = false) :
    Calls Try.prog 39 #[.slice A h c, .slice B h d, .slice C x.length f] w (Gives (.bool false) w) := by
  have h4 := gd.h4
  have hb : Below w.heap.size w ((((w.alloc (.cells #[.slice A h c] 24)).alloc (.cells #[.slice B h d] 52)).alloc (.cells #[.slice C x.length f] 24)).alloc (.cells #[.bool false] 4)) := ((((Below.refl _ _).alloc (Nat.le_refl _) _).alloc (by simp) _).alloc (by simp; omega) _).alloc (by simp; omega) _
  have hc := implMaskValid_any A B c d _ _ _ (hx.below hb) (hy.below hb) (by rw [mkT_len]; unfold maxLen; omega) (by rw [mkT_len]; unfold maxLen; omega)
  rw [mkT_len, mkT_len, maskValid_mk gd] at hc
  have hc2 := sameShape_any A C c f _ x _ (hx.below hb) (hz.below hb) (by rw [mkT_len]; unfold maxLen; omega)
  rw [mkT_len, sameSh_mk, hs] at hc2
  have HC := Lib.hid hc
  have HC2 := Lib.hid hc2
  have HB := Lib.hid hb
  clear hc hb hx hy hz hs hc2 gd
  go_enter Try.func39, Try.ntmps39
  go_wp2_with fail
  refine HC.out.mono ?_
  rintro e w1 ⟨rfl, rfl⟩
  go_wp2_with fail
  refine HC2.out.mono ?_
  rintro e w1 ⟨rfl, rfl⟩
  go_wp2_with fail
  exact bodyPost_ret (v := .bool false) (by simp [results, Try.f39, go_sem]) rfl ⟨rfl, HB.out⟩
/-- between two rounds -/
structure FitI (w : World) (h wd : Nat) (G : Nat → Nat → Int) (M : Nat → Nat → Bool) (X : Nat → Nat → Int) (p1 p2 p3 : Nat) (tv mv xv : Value) (pre : List (Nat × Nat)) (W : World) : Prop where
  bt : Blk W w.heap.size 24 #[tv]
  bm : Blk W p1 52 #[mv]
  bx : Blk W p2 24 #[xv]
  br : Blk W p3 4 #[.bool false]
  bel : Below w.heap.size w W
  ok : ∀ q ∈ pre, cellFit (G q.1 q.2) (M q.1 q.2) (X q.1 q.2) = true
set_option maxRecDepth 100000 in
set_option maxHeartbeats 4000000 in
theorem implFit_yes (A B C : Option Addr) (c d f h wd : Nat) (G : Nat → Nat → Int) (M : Nat → Nat → Bool) (X : Nat → Nat → Int) (w : World) (hx : Tab IntV w A (mkT h wd G)) (hy : Tab BoolV w B (mkT h wd M)) (hz : Tab IntV w C (mkT h wd X)) (gd : Good h wd G) (h0 : ∀ i j, ¬ (i < h ∧ j < wd) → X i j = 0) :
    Calls Try.prog 39 #[.slice A h c, .slice B h d, .slice C h f] w (Gives (.bool (fitM h wd G M X)) w) := by
  have h4 := gd.h4
  have h1 := gd.h1
  have w1 := gd.w1
  have w4 := gd.w4
  obtain ⟨Wb, hWb⟩ : ∃ Wb : World, Wb = ((((w.alloc (.cells #[.slice A h c] 24)).alloc (.cells #[.slice B h d] 52)).alloc (.cells #[.slice C h f] 24)).alloc (.cells #[.bool false] 4)) := ⟨_, rfl⟩
  have hb : Below w.heap.size w Wb := by rw [hWb]; exact ((((Below.refl _ _).alloc (Nat.le_refl _) _).alloc (by simp) _).alloc (by simp; omega) _).alloc (by simp; omega) _
  have hc := implMaskValid_any A B c d _ _ _ (hx.below hb) (hy.below hb) (by rw [mkT_len]; unfold maxLen; omega) (by rw [mkT_len]; unfold maxLen; omega)
  rw [mkT_len, mkT_len, maskValid_mk gd] at hc
  have hc2 := sameShape_any A C c f _ (mkT h wd X) _ (hx.below hb) (hz.below hb) (by rw [mkT_len]; unfold maxLen; omega)
  have hs : shapeW h wd (mkT h wd X) = true := by
    simp only [shapeW, mkT_len, decide_true, Bool.true_and, List.all_eq_true, decide_eq_true_eq]
    intro r hr
    obtain ⟨i, hi, rfl⟩ := mkT_mem.1 hr
    exact mkL_len _ _
  rw [mkT_len, mkT_len, sameSh_mk, hs] at hc2
  obtain ⟨p1, hp1⟩ : ∃ p, w.heap.size + 1 = p := ⟨_, rfl⟩
  obtain ⟨p2, hp2⟩ : ∃ p, p1 + 1 = p := ⟨_, rfl⟩
  obtain ⟨p3, hp3⟩ : ∃ p, p2 + 1 = p := ⟨_, rfl⟩
  have hsz : Wb.heap.size = p3 + 1 := by rw [hWb]; simp; omega
  have b0' : Blk Wb w.heap.size 24 #[.slice A h c] := by
    rw [hWb]
    simp only [Blk, hp_alloc, World.size_alloc]
    repeat (first | rw [if_pos trivial] | rw [if_neg (by omega)])
  have b1' : Blk Wb p1 52 #[.slice B h d] := by
    rw [hWb, ← hp1]
    simp only [Blk, hp_alloc, World.size_alloc]
    repeat (first | rw [if_pos trivial] | rw [if_neg (by omega)])
  have b2' : Blk Wb p2 24 #[.slice C h f] := by
    rw [hWb, ← hp2, ← hp1]
    simp only [Blk, hp_alloc, World.size_alloc]
    repeat (first | rw [if_pos trivial] | rw [if_neg (by omega)])
  have b3' : Blk Wb p3 4 #[.bool false] := by
    rw [hWb, ← hp3, ← hp2, ← hp1]
    simp only [Blk, hp_alloc, World.size_alloc]
    repeat (first | rw [if_pos trivial] | rw [if_neg (by omega)])
  have c0 : Wb.cell? ⟨w.heap.size, 0, none⟩ = some (.slice A h c) := by rw [b0'.cell 0]; rfl
  have c1 : Wb.cell? ⟨p1, 0, none⟩ = some (.slice B h d) := by rw [b1'.cell 0]; rfl
  have c2 : Wb.cell? ⟨p2, 0, none⟩ = some (.slice C h f) := by rw [b2'.cell 0]; rfl
  have HC := Lib.hid hc
  have HC2 := Lib.hid hc2
  have HBB := Lib.hid hb
  have HX := Lib.hid hx
  have HY := Lib.hid hy
  have HZ := Lib.hid hz
  have HGD := Lib.hid gd
  have H0 := Lib.hid h0
  have HBL := Lib.hid (show Blk Wb w.heap.size 24 #[.slice A h c] ∧ Blk Wb p1 52 #[.slice B h d] ∧ Blk Wb p2 24 #[.slice C h f] ∧ Blk Wb p3 4 #[.bool false] from ⟨b0', b1', b2', b3'⟩)
  clear hc hb hx hy hz hs hc2 gd h0 b0' b1' b2' b3'
  refine (callsIn_wide (n := 5)).1 ?_
  refine callsIn_of_wp_marks Try.func39 rfl trivial ?_ rfl
  simp only [Try.ntmps39, List.size_toArray, List.length_cons, List.length_nil, Nat.reduceAdd, Nat.reduceSub, Array.replicate_succ, Array.replicate_zero, List.push_toArray, List.append_toArray, List.nil_append, List.cons_append]
  gi_upto_region 1 with (fail)
  rw [← hWb]
  clear hWb
  gi_wp2
  refine ⟨trivial, ?_⟩
  refine (callsIn_wide.2 HC.out).mono ?_
  rintro e w' ⟨rfl, rfl⟩
  gi_wp2
  refine ⟨trivial, ?_⟩
  refine (callsIn_wide.2 HC2.out).mono ?_
  rintro e w' ⟨rfl, rfl⟩
  gi_wp2
  refine ⟨trivial, ?_⟩
  refine (cellsOf_in Fence.wide _ trivial rfl _ _ _ _).mono ?_
  rintro e w' ⟨rfl, rfl⟩
  gi_wp2
  have hmx : Try.prog.follows .mixedOrders = true := by kernel_rfl
  obtain ⟨W0, hW0⟩ : ∃ W0 : World, W0 = Wb.alloc (.cells #[.slice A h c] 24) := ⟨_, rfl⟩
  have hsz0 : W0.heap.size = p3 + 2 := by rw [hW0]; simp; omega
  have hB0 : Below w.heap.size w W0 := by rw [hW0]; exact HBB.out.alloc HBB.out.size _
  have cN : W0.cell? ⟨p3 + 1, 0, none⟩ = some (.slice A h c) := by
    rw [hW0, ← hsz]
    exact (Blk.new Wb 24 _).cell 0
  have hI0 : FitI w h wd G M X p1 p2 p3 (.slice A h c) (.slice B h d) (.slice C h f) [] W0 := by
    rw [hW0]
    exact ⟨HBL.out.1.alloc _, HBL.out.2.1.alloc _, HBL.out.2.2.1.alloc _, HBL.out.2.2.2.alloc _, HBB.out.alloc HBB.out.size _, by simp⟩
  rw [← hW0]
  clear hW0
  refine wpIn_rangeFunc_ownG rfl (by omega) (gf := 88) (lb := #[.pointer (some ⟨p3 + 1, 0, none⟩)]) rfl trivial (enters_of Try.func88 (by kernel_rfl) rfl)
    (cells_stops Fence.wide _ trivial rfl (by omega) (p3 + 1) h wd G _ c (by omega) (by omega) w W0 HX.out hB0 (by omega) cN) belowK_t (belowK_b (by omega)) (Below.refl _ _) (fun _ => rfl)
    (fun pre W => FitI w h wd G M X p1 p2 p3 (.slice A h c) (.slice B h d) (.slice C h f) (nn pre) W)
    (fun q pre W => q = .ret ∧ Blk W p3 4 #[.bool false] ∧ Below w.heap.size w W ∧ cellsFit h wd G M X = false)
    (fun s A B row hs hg hr => ⟨hs.bt.kept hg fun r e => (hr r e).2, hs.bm.kept hg fun r e => (hr r e).2, hs.bx.kept hg fun r e => (hr r e).2, hs.br.kept hg fun r e => (hr r e).2, hs.bel.grown hg hs.bel.size (fun k e => by have := (hr k e).1; omega), hs.ok⟩)
    (fun q s A B row hs hg hr => ⟨hs.1, hs.2.1.kept hg fun r e => (hr r e).2, hs.2.2.1.grown hg hs.2.2.1.size (fun k e => by have := (hr k e).1; omega), hs.2.2.2⟩)
    hI0
    (fun x => { tmps := #[.slice A h c, .slice B h d, .slice C h f, .pointer (some ⟨w.heap.size, 0, none⟩), .pointer (some ⟨p1, 0, none⟩), .pointer (some ⟨p2, 0, none⟩), .pointer (some ⟨p3, 0, none⟩), .int .i64 x.1.1, .int .i64 x.1.2, undef, undef, undef, undef, .slice A h c, .slice B h d, .bool true, .bool false, .bool false, .slice A h c, .slice C h f, .bool true, .bool false, .bool false, .slice A h c, .func (.func 88) #[] #[.pointer (some ⟨p3 + 1, 0, none⟩)], .int .i64 x.1.1, .int .i64 x.1.2, undef, undef, undef, undef, undef, undef, undef, undef, undef, undef, undef, undef, undef, undef, undef, undef, undef, undef, undef, undef, undef, undef, undef, undef, undef, undef, undef, undef, undef, undef, undef, undef, undef, undef, undef, undef, undef, undef, undef, undef, undef, undef, undef, undef, undef, undef, undef, undef, undef, undef, undef, undef, undef, undef, undef, undef, undef, undef, undef, undef, undef, undef, undef], defers := [] }) ?assign ?body ?done ?stop
  case assign =>
    intro l x W K hK
    gi_wp2
    exact hK
  case body => as_aux_lemma =>
    rintro r pre ⟨⟨i, j⟩, hi, hj⟩ W hs hlen
    dsimp only at hi hj
    obtain ⟨tb, tp, rfl, tr, tq, tc, hgT⟩ := (HX.out.below hs.bel).grid (by omega) (by omega)
    obtain ⟨mb, mp, rfl, mr, mq, mc, hgM⟩ := (HY.out.below hs.bel).grid (by omega) (by omega)
    obtain ⟨xb, xp, rfl, xr, xq, xc, hgX⟩ := (HZ.out.below hs.bel).grid (by omega) (by omega)
    have e0 := hs.bt.cell 0
    have e1 := hs.bm.cell 0
    have e2 := hs.bx.cell 0
    have e3 := hs.br.cell 0
    have e4 := hs.br.frozen 0
    simp at e0 e1 e2 e3
    have tr1 := hgT.row i hi
    have tc1 := hgT.cell i j hi hj
    have mr1 := hgM.row i hi
    have mc1 := hgM.cell i j hi hj
    have xr1 := hgX.row i hi
    have xc1 := hgX.cell i j hi hj
    simp only [IntV] at tc1 xc1
    simp only [BoolV] at mc1
    obtain ⟨y, hy⟩ : ∃ y, X i j = y := ⟨_, rfl⟩
    obtain ⟨g, hg⟩ : ∃ g, G i j = g := ⟨_, rfl⟩
    obtain ⟨m, hm⟩ : ∃ m, M i j = m := ⟨_, rfl⟩
    rw [hy] at xc1
    rw [hg] at tc1
    rw [hm] at mc1
    have i1 : (i : Int) < (h : Int) := by omega
    have j1 : (j : Int) < (wd : Int) := by omega
    have HS := Lib.hid hs
    have hbad : cellFit g m y = false → cellsFit h wd G M X = false := fun e => cellsFit_bad hi hj (by rw [hg, hm, hy]; exact e)
    have hgood : cellFit g m y = true → ∀ W', Blk W' w.heap.size 24 #[.slice (some ⟨tb, tp, none⟩) h c] → Blk W' p1 52 #[.slice (some ⟨mb, mp, none⟩) h d] → Blk W' p2 24 #[.slice (some ⟨xb, xp, none⟩) h f] → Blk W' p3 4 #[.bool false] → Below w.heap.size w W' →
        FitI w h wd G M X p1 p2 p3 (.slice (some ⟨tb, tp, none⟩) h c) (.slice (some ⟨mb, mp, none⟩) h d) (.slice (some ⟨xb, xp, none⟩) h f) (nn (pre ++ [⟨(i, j), hi, hj⟩])) W' := fun e W' b1 b2 b3 b4 b5 => ⟨b1, b2, b3, b4, b5, fun q hq => by
      rw [nn_snoc] at hq
      rcases List.mem_append.1 hq with hq | hq
      · exact HS.out.ok q hq
      · simp at hq
        subst hq
        rw [hg, hm, hy]; exact e⟩
    have HBAD := Lib.hid hbad
    have HGOOD := Lib.hid hgood
    have hcase : (y < 0 ∧ cellFit g m y = false) ∨ ((decide (y < 0) = false ∧ 396 < y) ∧ cellFit g m y = false) ∨ ((decide (y < 0) = false ∧ decide (396 < y) = false) ∧ m = true ∧ cellFit g m y = true) ∨ ((decide (y < 0) = false ∧ decide (396 < y) = false) ∧ m = false ∧ (y != g) = false ∧ cellFit g m y = true) ∨ ((decide (y < 0) = false ∧ decide (396 < y) = false) ∧ m = false ∧ (y != g) = true ∧ cellFit g m y = false) := by
      by_cases q1 : y < 0
      · exact .inl ⟨q1, by simp [cellFit, show ¬ 0 ≤ y by omega]⟩
      · by_cases q2 : 396 < y
        · exact .inr (.inl ⟨⟨decide_eq_false q1, q2⟩, by simp [cellFit, show ¬ y ≤ 396 by omega]⟩)
        · have q3 : 0 ≤ y := by omega
          have q4 : y ≤ 396 := by omega
          cases m
          · by_cases q5 : y = g
            · exact .inr (.inr (.inr (.inl ⟨⟨decide_eq_false q1, decide_eq_false q2⟩, rfl, by simp [q5], by simp [cellFit, q5]; omega⟩)))
            · exact .inr (.inr (.inr (.inr ⟨⟨decide_eq_false q1, decide_eq_false q2⟩, rfl, by simp [q5], by simp [cellFit, q5]⟩)))
          · exact .inr (.inr (.inl ⟨⟨decide_eq_false q1, decide_eq_false q2⟩, rfl, by simp [cellFit, q3, q4]⟩))
    clear hs hlen hgT hgM hgX hy hg hm hbad hgood
    rcases hcase with ⟨q1, q9⟩ | ⟨⟨q1, q2⟩, q9⟩ | ⟨⟨q1, q2⟩, rfl, q9⟩ | ⟨⟨q1, q2⟩, rfl, q3, q9⟩ | ⟨⟨q1, q2⟩, rfl, q3, q9⟩
    · have HC9 := Lib.hid (HBAD.out q9)
      clear q9
      gi_wp2
      refine tail_roundQ 44 hmx (by kernel_rfl) (by kernel_rfl) ?_
      simp only [List.take_succ_cons, List.take_zero, List.drop_succ_cons, List.drop_zero]
      repeat (first | go_big_quiet_skip | (go_big_quiet_want; go_big_quiet_op; go_big_quiet_on))
      refine wpQuiet_nil ?_
      gi_wp2
      refine ⟨((KeepsOthers.setCell _ _ _).trans (KeepsOthers.drew _)).from _, rfl, (HS.out.br.set_ 0 (.bool false)).drew, (HS.out.bel.setCell (p := ⟨p3, 0, none⟩) (by simp; omega) _).drew, HC9.out⟩
    · have HC9 := Lib.hid (HBAD.out q9)
      clear q9
      gi_wp2
      refine tail_roundQ 44 hmx (by kernel_rfl) (by kernel_rfl) ?_
      simp only [List.take_succ_cons, List.take_zero, List.drop_succ_cons, List.drop_zero]
      repeat (first | go_big_quiet_skip | (go_big_quiet_want; go_big_quiet_op; go_big_quiet_on))
      refine wpQuiet_nil ?_
      gi_wp2
      refine ⟨((KeepsOthers.setCell _ _ _).trans (KeepsOthers.drew _)).from _, rfl, (HS.out.br.set_ 0 (.bool false)).drew, (HS.out.bel.setCell (p := ⟨p3, 0, none⟩) (by simp; omega) _).drew, HC9.out⟩
    · have HC9 := Lib.hid (HGOOD.out q9)
      clear q9
      gi_wp2
      refine tail_roundQ 44 hmx (by kernel_rfl) (by kernel_rfl) ?_
      simp only [List.take_succ_cons, List.take_zero, List.drop_succ_cons, List.drop_zero]
      repeat (first | go_big_quiet_skip | (go_big_quiet_want; go_big_quiet_op; go_big_quiet_on))
      refine wpQuiet_nil ?_
      gi_wp2
      refine ⟨(KeepsOthers.drew _).from _, (Below.refl _ _).drew, ?_⟩
      exact HC9.out _ HS.out.bt.drew HS.out.bm.drew HS.out.bx.drew HS.out.br.drew HS.out.bel.drew
    · have HC9 := Lib.hid (HGOOD.out q9)
      clear q9
      gi_wp2
      refine tail_roundQ 44 hmx (by kernel_rfl) (by kernel_rfl) ?_
      simp only [List.take_succ_cons, List.take_zero, List.drop_succ_cons, List.drop_zero]
      repeat (first | go_big_quiet_skip | (go_big_quiet_want; go_big_quiet_op; go_big_quiet_on))
      refine wpQuiet_nil ?_
      gi_wp2
      refine ⟨(KeepsOthers.drew _).from _, (Below.refl _ _).drew, ?_⟩
      exact HC9.out _ HS.out.bt.drew HS.out.bm.drew HS.out.bx.drew HS.out.br.drew HS.out.bel.drew
    · have HC9 := Lib.hid (HBAD.out q9)
      clear q9
      gi_wp2
      refine tail_roundQ 44 hmx (by kernel_rfl) (by kernel_rfl) ?_
      simp only [List.take_succ_cons, List.take_zero, List.drop_succ_cons, List.drop_zero]
      repeat (first | go_big_quiet_skip | (go_big_quiet_want; go_big_quiet_op; go_big_quiet_on))
      refine wpQuiet_nil ?_
      gi_wp2
      refine ⟨((KeepsOthers.setCell _ _ _).trans (KeepsOthers.drew _)).from _, rfl, (HS.out.br.set_ 0 (.bool false)).drew, (HS.out.bel.setCell (p := ⟨p3, 0, none⟩) (by simp; omega) _).drew, HC9.out⟩
  case done => as_aux_lemma =>
    rintro D ys W hD hS hs hK
    have hall : cellsFit h wd G M X = true := cellsFit_iff.2 fun i j hi hj => hs.ok (i, j) (by rw [hS]; exact cp_mem.2 (.inl ⟨hi, hj⟩))
    have hXb : ∀ i j, 0 ≤ X i j ∧ X i j ≤ 1000 := fun i j => by
      by_cases ho : i < h ∧ j < wd
      · have := cellFit_iff.1 (cellsFit_iff.1 hall i j ho.1 ho.2); omega
      · rw [H0.out i j ho]; omega
    have hGb : ∀ i j, 0 ≤ G i j ∧ G i j ≤ 1000 := fun i j => by have := HGD.out.lo i j; have := HGD.out.hi i j; omega
    have hfm : fitM h wd G M X = (eqInts (rowL h wd G) (rowL h wd X) && eqInts (colL h wd G) (colL h wd X)) := by rw [fitM_sums hall]; rfl
    have e0 := hs.bt.cell 0
    have e2 := hs.bx.cell 0
    simp at e0 e2
    have HS := Lib.hid hs
    have HK := Lib.hid hK
    have HFM := Lib.hid hfm
    have hDl : D < W.heap.size := (Array.getElem?_eq_some_iff.1 hK).1
    have hp3l := hs.br.lt
    have hs1 := sumsOf_any A c h wd G W (HX.out.below hs.bel) h1 h4 w1 w4 hGb
    have hs2 := fun W' (hW : Tab IntV W' C (mkT h wd X)) => sumsOf_any C f h wd X W' hW h1 h4 w1 w4 hXb
    have HS1 := Lib.hid hs1
    have HS2 := Lib.hid hs2
    clear hs hS hall hXb hGb hfm hK hs1 hs2
    gi_wp2
    refine ⟨trivial, ?_⟩
    refine (callsIn_wide.2 HS1.out).mono ?_
    rintro e w6 ⟨A6, c6, B6, d6, rfl, o6, q6, -, hb6⟩
    have h6 := HS.out.bel.trans (hb6.mono HS.out.bel.size)
    have e26 := (hb6.cell (p := ⟨p2, 0, none⟩) (HS.out.bx.lt)).trans e2
    have HX6 := Lib.hid (Lst.of_own o6)
    have HY6 := Lib.hid (Lst.of_own q6)
    have hz6 := hb6.size
    clear o6 q6 e2
    gi_wp2
    refine ⟨trivial, ?_⟩
    refine (callsIn_wide.2 (HS2.out _ (HZ.out.below h6))).mono ?_
    rintro e w7 ⟨A7, c7, B7, d7, rfl, o7, q7, -, hb7⟩
    have h7 := h6.trans (hb7.mono h6.size)
    have hb67 := hb6.trans (hb7.mono hb6.size)
    have HX7 := Lib.hid (Lst.of_own o7)
    have HY7 := Lib.hid (Lst.of_own q7)
    have HX67 := Lib.hid (HX6.out.below hb7)
    have HY67 := Lib.hid (HY6.out.below hb7)
    have hz7 := hb67.size
    clear o7 q7 HX6 HY6 hz6
    have hend : ∀ (w8 : World) (r : Bool), Below W.heap.size W w8 → (w8.setCell ⟨p3, 0, none⟩ (.bool r)).heap[D]? = some (.deferred (some [])) ∧ ((w8.setCell ⟨p3, 0, none⟩ (.bool r)).putObj D (.deferred none)).cell? ⟨p3, 0, none⟩ = some (.bool r) ∧ Below w.heap.size w ((w8.setCell ⟨p3, 0, none⟩ (.bool r)).putObj D (.deferred none)) ∧ w8.frozen? ⟨p3, 0, none⟩ = false ∧ w8.cell? ⟨p3, 0, none⟩ = some (.bool false) := fun w8 r hb8 => by
      have hbr : Blk w8 p3 4 #[.bool false] := HS.out.br.below hb8 hp3l
      have hbr2 : Blk (w8.setCell ⟨p3, 0, none⟩ (.bool r)) p3 4 #[.bool r] := hbr.set_ 0 (.bool r)
      have hk8 : (w8.setCell ⟨p3, 0, none⟩ (.bool r)).heap[D]? = some (.deferred (some [])) := (Below.heap_setCell w8 ⟨p3, 0, none⟩ (.bool r) D (by simp; omega)).trans ((hb8.block D hDl).trans HK.out)
      have hbel8 : Below w.heap.size w (w8.setCell ⟨p3, 0, none⟩ (.bool r)) := (HS.out.bel.trans (hb8.mono HS.out.bel.size)).setCell (p := ⟨p3, 0, none⟩) (by simp; omega) _
      refine ⟨hk8, ?_, hbel8.trans (belowK_b (w := w) (Nat.le_refl _) _ D _ _ (by omega) hk8 rfl rfl), hbr.frozen 0, by rw [hbr.cell 0]; rfl⟩
      have hgr := grownBy_putObj' (w8.setCell ⟨p3, 0, none⟩ (.bool r)) D (.deferred none)
      have := hbr2.grown hgr (fun e => by injection e with e; omega)
      rw [this.cell 0]; rfl
    have HEND := Lib.hid hend
    have heq1 := equalS_any A6 A7 c6 c7 (rowL h wd G) (rowL h wd X) w7 HX67.out.1 HX7.out.1 (by rw [rowL, mkL_len]; unfold maxLen; omega)
    have heq2 := fun W' (ha : Seq IntV W' B6 (colL h wd G)) (hb : Seq IntV W' B7 (colL h wd X)) => equalS_any B6 B7 d6 d7 (colL h wd G) (colL h wd X) W' ha hb (by rw [colL, mkL_len]; unfold maxLen; omega)
    obtain ⟨r1, hr1⟩ : ∃ r, eqInts (rowL h wd G) (rowL h wd X) = r := ⟨_, rfl⟩
    obtain ⟨r2, hr2⟩ : ∃ r, eqInts (colL h wd G) (colL h wd X) = r := ⟨_, rfl⟩
    rw [hr1] at heq1
    simp only [hr2] at heq2
    rw [hr1, hr2] at HFM
    have HE1 := Lib.hid heq1
    have HE2 := Lib.hid heq2
    clear hend heq1 heq2 hr1 hr2 hD
    cases r1
    · gi_wp2
      refine ⟨trivial, ?_⟩
      refine (callsIn_wide.2 HE1.out).mono ?_
      rintro e w8 ⟨rfl, hq8⟩
      have hb8 := hb67.trans (hq8.below.mono hz7)
      obtain ⟨k1, k2, k3, k4, k5⟩ := HEND.out w8 false hb8
      clear hq8 e26 e0
      gi_wp2
      refine ⟨trivial, ?_⟩
      gi_wp2
      refine ⟨by simp, .inl ⟨_, _, rfl, run_takeDeferred k1, ?_⟩⟩
      refine ⟨_, by simp [results, Try.f39, go_sem, k2]; rfl, ?_⟩
      exact ⟨by rw [HFM.out]; rfl, k3⟩
    · gi_wp2
      refine ⟨trivial, ?_⟩
      refine (callsIn_wide.2 HE1.out).mono ?_
      rintro e w8 ⟨rfl, hq8⟩
      have hb8 := hb67.trans (hq8.below.mono hz7)
      have HA := Lib.hid (HE2.out w8 (HY67.out.1.qu hq8) (HY7.out.1.qu hq8))
      have hz8 := hb8.size
      clear hq8 e26 e0
      gi_wp2
      refine ⟨trivial, ?_⟩
      refine (callsIn_wide.2 HA.out).mono ?_
      rintro e w9 ⟨rfl, hq9⟩
      obtain ⟨k1, k2, k3, k4, k5⟩ := HEND.out w9 r2 (hb8.trans (hq9.below.mono hz8))
      clear hq9
      gi_wp2
      refine ⟨by simp, .inl ⟨_, _, rfl, run_takeDeferred k1, ?_⟩⟩
      refine ⟨_, by simp [results, Try.f39, go_sem, k2]; rfl, ?_⟩
      exact ⟨by rw [HFM.out]; rfl, k3⟩
  case stop =>
    rintro D q pre W hD _ ⟨rfl, hbr, hbel, hcf⟩ hK
    have k2 : (W.putObj D (.deferred none)).cell? ⟨p3, 0, none⟩ = some (.bool false) := by
      have := hbr.grown (grownBy_putObj' W D (.deferred none)) (fun e => by injection e with e; omega)
      rw [this.cell 0]; rfl
    have k3 : Below w.heap.size w (W.putObj D (.deferred none)) := hbel.trans (belowK_b (w := w) (Nat.le_refl _) W D _ _ (by omega) hK rfl rfl)
    have HF := Lib.hid (fitM_cells (M := M) hcf)
    clear hbr hbel hcf
    gi_wp2
    refine ⟨by simp, .inl ⟨_, _, rfl, run_takeDeferred hK, ?_⟩⟩
    refine ⟨_, by simp [results, Try.f39, go_sem, k2]; rfl, ?_⟩
    exact ⟨by rw [HF.out], k3⟩
theorem implFit_any (A B C : Option Addr) (c d f : Nat) (t : List (List Int)) (m : List (List Bool)) (x : List (List Int)) (w : World) (hx : Tab IntV w A t) (hy : Tab BoolV w B m) (hz : Tab IntV w C x) (hl : t.length ≤ maxLen) (hm : m.length ≤ maxLen) :
    Calls Try.prog 39 #[.slice A t.length c, .slice B m.length d, .slice C x.length f] w (Gives (.bool (fitT t m x)) w) := by
  rcases fit_cases t m x with ⟨hv, e⟩ | ⟨h, wd, G, M, rfl, gd, rfl, hs, e⟩ | ⟨h, wd, G, M, X, rfl, gd, rfl, rfl, h0, e⟩
  · rw [e]
    exact implFit_no A B C c d f t m x w hx hy hl hm hv
  · rw [e, mkT_len, mkT_len]
    exact implFit_shape A B C c d f h wd G M x w hx hy hz gd hs
  · rw [e, mkT_len, mkT_len, mkT_len]
    exact implFit_yes A B C c d f h wd G M X w hx hy hz gd h0
end Go.Proofs.Ytncnghmadeghlaa
