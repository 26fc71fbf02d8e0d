/- TableTurn of the program. -/
import Derived.Test.YtkneddahefhedaaCells
import Derived.Sort.CutIn
import Derived.Deep.RegionHeld3
import Derived.Test.YtkneddahefhedaaTailIn
import Derived.Test.YtkneddahefhedaaEmptyT
import Derived.Test.YtkneddahefhedaaTabValidI
namespace Go.Proofs.Ytkneddahefhedaa
open Go.RowKit Go.Shelf
set_option linter.unusedVariables false
attribute [local go_sem] Oper.semAt_some
/-- what has been turned: at (j, i) what stood at (i, j), zero elsewhere -/
def turnF (G : Nat → Nat → Int) (pre : List (Nat × Nat)) : Nat → Nat → Int := fun a b => if (b, a) ∈ pre then G b a else 0
theorem turnF_up (G : Nat → Nat → Int) (pre : List (Nat × Nat)) (i j : Nat) : up2 (turnF G pre) j i (G i j) = turnF G (pre ++ [(i, j)]) := by
  funext a b
  by_cases h : a = j ∧ b = i
  · obtain ⟨rfl, rfl⟩ := h; simp [up2, turnF]
  · rw [up2, if_neg h]
    have : (b, a) ∈ pre ++ [(i, j)] ↔ (b, a) ∈ pre := by
      simp only [List.mem_append, List.mem_singleton, Prod.mk.injEq]
      exact ⟨fun e => e.elim id fun e => absurd ⟨e.2, e.1⟩ h, .inl⟩
    simp only [turnF, this]
theorem turnF_all (G : Nat → Nat → Int) (h wd : Nat) : mkT wd h (turnF G (cp wd h 0)) = mkT wd h fun a b => G b a := mkT_ext fun i j hi hj => by
  rw [turnF, if_pos (cp_mem.2 (.inl ⟨hj, hi⟩))]
/-- behind the first statement: the box p of a new table g, whatever came first -/
def TurnRel (w : World) (h wd : Nat) (tv u v : Value) (wx : World) : Prop :=
  ∃ p g cc vs lo hi, u = .pointer (some ⟨p, 0, none⟩) ∧ v = .slice (some ⟨g, 0, none⟩) wd cc ∧ (wd ≤ cc ∧ cc ≤ maxLen) ∧ Blk wx w.heap.size 23 #[tv] ∧ Blk wx p 23 #[.slice (some ⟨g, 0, none⟩) wd cc] ∧
    OwnT IntV 3 lo hi wx g vs (mkT wd h fun _ _ => 0) ∧ (w.heap.size < lo ∧ w.heap.size < p ∧ (p < lo ∨ hi ≤ p)) ∧ Below w.heap.size w wx
theorem turnrel_a {w W w9 : World} {h wd g cc : Nat} {tv : Value} {vs : Nat → Value} (hbt : Blk W w.heap.size 23 #[tv]) (hBW : Below w.heap.size w W) (hcc : wd ≤ cc ∧ cc ≤ maxLen) (hT : OwnT IntV 3 W.heap.size w9.heap.size w9 g vs (mkT wd h fun _ _ => 0)) (hb : Below W.heap.size W w9) :
    TurnRel w h wd tv (.pointer (some ⟨w9.heap.size, 0, none⟩)) (.slice (some ⟨g, 0, none⟩) wd cc) (w9.alloc (.cells #[.slice (some ⟨g, 0, none⟩) wd cc] 23)) := by
  have hz := hbt.lt
  have hz2 := hb.size
  exact ⟨w9.heap.size, g, cc, vs, W.heap.size, w9.heap.size, rfl, rfl, hcc, (hbt.below hb hz).alloc _, Blk.new _ _ _, hT.below ((Below.refl _ _).alloc (Nat.le_refl _) _), ⟨hz, by omega, .inr (Nat.le_refl _)⟩, (hBW.trans (hb.mono (by omega))).alloc (by omega) _⟩
theorem turnrel_b {w W w9 : World} {h wd g cc p : Nat} {tv v : Value} {vs : Nat → Value} (hbt : Blk W w.heap.size 23 #[tv]) (hbp : Blk W p 23 #[v]) (hp : w.heap.size < p) (hBW : Below w.heap.size w W) (hcc : wd ≤ cc ∧ cc ≤ maxLen) (hT : OwnT IntV 3 W.heap.size w9.heap.size w9 g vs (mkT wd h fun _ _ => 0)) (hb : Below W.heap.size W w9) :
    TurnRel w h wd tv (.pointer (some ⟨p, 0, none⟩)) (.slice (some ⟨g, 0, none⟩) wd cc) (w9.setCell ⟨p, 0, none⟩ (.slice (some ⟨g, 0, none⟩) wd cc)) := by
  have hz := hbt.lt
  have hz2 := hb.size
  have hp2 := hbp.lt
  refine ⟨p, g, cc, vs, W.heap.size, w9.heap.size, rfl, rfl, hcc, (hbt.below hb hz).far (p := ⟨p, 0, none⟩) (by simp; omega) _, ?_, hT.keep (by simp [World.setCell]) (fun i h1 h2 => Below.heap_setCell _ _ _ i (by simp; omega)), ⟨by omega, by omega, .inl hp2⟩, (hBW.trans (hb.mono (by omega))).setCell (p := ⟨p, 0, none⟩) (by simp; omega) _⟩
  have := (hbp.below hb hp2).set_ 0 (.slice (some ⟨g, 0, none⟩) wd cc)
  simpa using this
/-- between two rounds -/
structure TurnI (w : World) (h wd : Nat) (G : Nat → Nat → Int) (tv ov : Value) (lo hi p g : Nat) (vs : Nat → Value) (pre : List (Nat × Nat)) (W : World) : Prop where
  bt : Blk W w.heap.size 23 #[tv]
  bp : Blk W p 23 #[ov]
  own : OwnT IntV 3 lo hi W g vs (mkT wd h (turnF G pre))
  bel : Below w.heap.size w W
set_option maxHeartbeats 400000 in
theorem implTurn_no (A : Option Addr) (c : Nat) (t : List (List Int)) (w : World) (hx : Tab IntV w A t) (hl : t.length ≤ maxLen) (hv : tabValid t = false) :
    Calls Try.prog 15 #[.slice A t.length c] w fun e w' => e = .returned (.tuple #[.slice none 0 0, .bool false]) ∧ Below w.heap.size w w' := by
  go_enter Try.func15, Try.ntmps15
  go_wp2_with fail
  refine (implTableValid_any A c t _ (hx.below ((Below.refl _ _).alloc (Nat.le_refl _) _)) hl).mono ?_
  rintro e w' ⟨rfl, rfl⟩
  go_wp2_with fail
  go_ret2
  exact ⟨rfl, (Below.refl _ _).alloc (Nat.le_refl _) _⟩
set_option maxRecDepth 100000 in
set_option maxHeartbeats 2000000 in
theorem implTurn_yes (A : Option Addr) (c h wd : Nat) (G : Nat → Nat → Int) (w : World) (hx : Tab IntV w A (mkT h wd G)) (gd : Good h wd G) :
    Calls Try.prog 15 #[.slice A h c] w (GotT IntV 3 w (mkT wd h fun a b => G b a) true) := by
  have h1 := gd.h1
  have h4 := gd.h4
  have w1 := gd.w1
  have w4 := gd.w4
  have hb1 : Below w.heap.size w (w.alloc (.cells #[.slice A h c] 23)) := (Below.refl _ _).alloc (Nat.le_refl _) _
  have hx1 := hx.below hb1
  have hc := implTableValid_any A c (mkT h wd G) _ hx1 (by rw [mkT_len]; unfold maxLen; omega)
  rw [mkT_len, gd.valid] at hc
  have HC := Lib.hid hc
  clear hc
  obtain ⟨b0, o0, A0, c0, rfl, hb0, hc0, hL0⟩ := hx.mkrow (i := 0) (by omega)
  clear hL0
  simp only [Nat.add_zero] at hc0
  have q1 : b0 < w.heap.size + 1 := by omega
  have q2 : b0 < w.heap.size + 1 + 1 := by omega
  clear hx1
  refine (callsIn_wide (n := 5)).1 ?_
  refine callsIn_of_wp_marks Try.func15 rfl trivial ?_ rfl
  simp only [Try.ntmps15, List.size_toArray, List.length_cons, List.length_nil, Nat.reduceAdd, Nat.reduceSub, Array.replicate_succ, Array.replicate_zero, List.push_toArray, List.append_toArray, List.nil_append, List.cons_append]
  gi_wp2_with (refine ⟨trivial, ?_⟩; gi_at_call 49; refine (callsIn_wide.2 HC.out).mono ?_; rintro e w' ⟨rfl, rfl⟩)
  gi_cut [4, 16] from 35 (fun u v wx => TurnRel w h wd (.slice (some ⟨b0, o0, none⟩) h c) u v wx)
  case first =>
    refine wpIn_wide.2 ?_
    have n2 : ¬ b0 = w.heap.size + 1 := by omega
    have n3 : ¬ w.heap.size + 1 = b0 := by omega
    have g0 : (0 : Int) < (h : Int) := by omega
    have g0' : 0 < h := by omega
    have k1 : (w.alloc (.cells #[.slice (some ⟨b0, o0, none⟩) h c] 23)).cell? ⟨w.heap.size, 0, none⟩ = some (.slice (some ⟨b0, o0, none⟩) h c) := by simp
    have k2 : (w.alloc (.cells #[.slice (some ⟨b0, o0, none⟩) h c] 23)).cell? ⟨b0, o0, none⟩ = some (.slice A0 wd c0) := (World.cell?_alloc_lt w _ ⟨b0, o0, none⟩ hb0).trans hc0
    go_region_held3 (fun w' => w'.cell? ⟨w.heap.size, 0, none⟩ = some (.slice (some ⟨b0, o0, none⟩) h c) ∧ w'.cell? ⟨b0, o0, none⟩ = some (.slice A0 wd c0)) (first | (refine ⟨(hb.cell (p := ⟨w.heap.size, 0, none⟩) ?_).trans ?_, (hb.cell (p := ⟨b0, o0, none⟩) ?_).trans ?_⟩ <;> first | (simp; done) | (simp; omega) | (simp [*]; done)) | go_keep)
      (first | (go_at_call 50; refine (emptyTable_mk wd h _ (by omega) (by omega)).mono ?_; rintro e w9 ⟨g, cc, vs, rfl, hcc, hT, hb⟩; obtain ⟨hcl, hfz⟩ := bcell hb; have z1 := hb.size; have n4 : ¬ b0 = w9.heap.size := (by simp at z1; omega); have n5 : ¬ w.heap.size = w9.heap.size := (by simp at z1; omega)))
    · gi_wp2
      gi_meet
      exact turnrel_a ((Blk.new w _ _).drewN _) (below_drewN ((Below.refl _ _).alloc (Nat.le_refl _) _) _) hcc hT hb
    · gi_wp2
      gi_meet
      exact turnrel_b (((Blk.new w _ _).alloc _).drewN _) (by have := Blk.new (w.alloc (.cells #[.slice (some ⟨b0, o0, none⟩) h c] 23)) 23 #[.slice none 0 0]; rw [World.size_alloc] at this; exact this.drewN 1) (by simp) (below_drewN (((Below.refl _ _).alloc (Nat.le_refl _) _).alloc (by simp) _) _) hcc hT hb
  case rest =>
    obtain ⟨p, g, cc, vs, lo, hi, rfl, rfl, hcc, hbt, hbp, hT, hd, hB⟩ := hcut
    have ct := hbt.cell 0
    simp at ct
    gi_wp2_with (refine ⟨trivial, ?_⟩; gi_at_call 51; refine (cellsOf_in Fence.wide _ trivial rfl _ _ _ _).mono ?_; rintro e w' ⟨rfl, rfl⟩)
    obtain ⟨W0, hW0⟩ : ∃ W0 : World, W0 = wc.alloc (.cells #[.slice (some ⟨b0, o0, none⟩) h c] 23) := ⟨_, rfl⟩
    have hsz0 : W0.heap.size = wc.heap.size + 1 := by rw [hW0]; simp
    have hBz := hB.size
    have hB0 : Below w.heap.size w W0 := by rw [hW0]; exact hB.alloc hBz _
    have cN : W0.cell? ⟨wc.heap.size, 0, none⟩ = some (.slice (some ⟨b0, o0, none⟩) h c) := by rw [hW0]; exact (Blk.new wc 23 _).cell 0
    have hI0 : TurnI w h wd G (.slice (some ⟨b0, o0, none⟩) h c) (.slice (some ⟨g, 0, none⟩) wd cc) lo hi p g vs [] W0 := by
      rw [hW0]
      refine ⟨hbt.alloc _, hbp.alloc _, ?_, hB.alloc hBz _⟩
      have e : mkT wd h (turnF G []) = mkT wd h fun _ _ => 0 := mkT_ext fun i j _ _ => by simp [turnF]
      rw [e]
      exact hT.below ((Below.refl _ _).alloc (Nat.le_refl _) _)
    have hhi := hT.hin
    have hlo := hd.1
    have hpp := hd.2.1
    have hdd := hd.2.2
    have hmx : Try.prog.follows .mixedOrders = true := by kernel_rfl
    rw [← hW0]
    refine wpIn_rangeFunc_ownG rfl (by omega) (gf := 64) (lb := #[.pointer (some ⟨wc.heap.size, 0, none⟩)]) rfl trivial (enters_of Try.func64 (by kernel_rfl) rfl)
      (cells_stops Fence.wide _ trivial rfl (by omega) wc.heap.size h wd G _ c (by omega) (by omega) w W0 hx hB0 (by omega) cN) belowK_t (belowK_b (by omega)) (Below.refl _ _) (fun _ => rfl)
      (fun pre W => TurnI w h wd G (.slice (some ⟨b0, o0, none⟩) h c) (.slice (some ⟨g, 0, none⟩) wd cc) lo hi p g vs (nn pre) W)
      (fun _ _ _ => False)
      (fun s A B row hs hg hr => ⟨hs.bt.kept hg fun r e => (hr r e).2, hs.bp.kept hg fun r e => (hr r e).2, hs.own.keep hg.size (fun i _ hi' => hg.block i (by have := hs.own.hin; omega) (fun e => by have := (hr i e.symm).1; omega)), hs.bel.grown hg hs.bel.size (fun k e => by have := (hr k e).1; omega)⟩)
      (fun _ _ _ _ _ hs _ _ => hs)
      hI0
      (fun x => { tmps := #[.slice (some ⟨b0, o0, none⟩) h c, .pointer (some ⟨w.heap.size, 0, none⟩), .slice none 0 0, .bool false, .pointer (some ⟨p, 0, none⟩), .int .i64 x.1.1, .int .i64 x.1.2, .slice (some ⟨b0, o0, none⟩) h c, .bool true, .bool false, u10, u11, u12, u13, u14, u15, .slice (some ⟨g, 0, none⟩) wd cc, .slice (some ⟨b0, o0, none⟩) h c, .func (.func 64) #[] #[.pointer (some ⟨wc.heap.size, 0, none⟩)], .int .i64 x.1.1, .int .i64 x.1.2, undef, undef, undef, undef, undef, undef, undef, undef, undef, undef, undef, undef, undef, undef], defers := [] }) ?assign ?body ?done ?stop
    case assign =>
      intro l x W K hK
      gi_wp2
      exact hK
    case body =>
      rintro l pre ⟨⟨i, j⟩, hi', hj⟩ W hs hlen
      obtain ⟨b, o, b', o', c', hA, hbb, c1, hbb', c2, hc', -⟩ := (hx.below hs.bel).mk hi' hj
      obtain ⟨rfl, rfl⟩ : b = b0 ∧ o = o0 := by injection hA with hA; injection hA with e1 e2; exact ⟨e1.symm, e2.symm⟩
      obtain ⟨br, cr, hv, r1, r2, r3, c3, c4, f4, -, hset⟩ := hs.own.cell_ hj hi'
      obtain ⟨y, hy⟩ : ∃ y, turnF G (nn pre) j i = y := ⟨_, rfl⟩
      obtain ⟨z, hz⟩ : ∃ z, G i j = z := ⟨_, rfl⟩
      have hset' := hset z
      rw [hy] at c4
      rw [hz] at c2
      rw [← hz, turnF_up] at hset'
      rw [hz] at hset'
      have cp := hs.bp.cell 0
      have ctt := hs.bt.cell 0
      simp at cp ctt
      have g1 : (i : Int) < (h : Int) := by omega
      have g2 : (j : Int) < (wd : Int) := by omega
      have HS := Lib.hid hs
      have HT2 := Lib.hid hset'
      clear hs hset hset' hy hz hA hlen hv
      dsimp only
      gi_wp2
      refine tail_round 13 hmx (by kernel_rfl) (by kernel_rfl) ?_
      simp only [List.take_succ_cons, List.take_zero, List.drop_succ_cons, List.drop_zero]
      repeat still_step
      try refine wpStill_nil ?_
      gi_wp2
      refine ⟨((KeepsOthers.setCell _ _ _).trans (KeepsOthers.drew _)).from _, ((Below.refl _ _).setCell (p := ⟨br, i, none⟩) (by simp; omega) _).drew, ?_⟩
      dsimp only
      rw [nn_snoc]
      exact ⟨(HS.out.bt.far (p := ⟨br, i, none⟩) (by simp; omega) _).drew, (HS.out.bp.far (p := ⟨br, i, none⟩) (by simp; omega) _).drew, HT2.out.below (below_drewN (Below.refl _ _) 1), (HS.out.bel.setCell (p := ⟨br, i, none⟩) (by simp; omega) _).drew⟩
    case done =>
      rintro D ys W hD hS hs hK
      have cp := hs.bp.cell 0
      simp at cp
      gi_wp2
      refine ⟨by simp, .inl ⟨_, _, rfl, run_takeDeferred hK, ?_⟩⟩
      refine ⟨_, by simp [results, Try.f15, go_sem]; rfl, ?_⟩
      have eT := turnF_all G h wd
      have hown := hs.own
      rw [hS, eT] at hown
      have hBel : Below w.heap.size w (W.putObj D (.deferred none)) := hs.bel.trans (belowK_b (w := w) (Nat.le_refl _) _ D _ _ (by omega) hK rfl rfl)
      refine ⟨some ⟨g, 0, none⟩, cc, by rw [mkT_len], by rw [mkT_len]; exact ⟨hcc.1, hcc.2, fun e => by cases e⟩, fun _ => ⟨g, vs, rfl, ?_⟩, hBel⟩
      have hgr := grownBy_putObj' W D (.deferred none)
      have hz := hown.hin
      exact (hown.keep hgr.size (fun i _ hi' => hgr.block i (by omega) (fun e => by injection e with e; omega))).wide (by omega) (Nat.le_trans hz hgr.size) (Nat.le_refl _)
    case stop =>
      rintro D c pre W _ _ h _
      exact h.elim
/-- the table turned -/
def turnT (t : List (List Int)) : List (List Int) := if tabValid t then mkT (wid t) t.length (fun a b => cel 0 t b a) else []
theorem turnT_no {t : List (List Int)} (h : tabValid t = false) : turnT t = [] := by simp [turnT, h]
theorem turnT_yes {h wd : Nat} {G : Nat → Nat → Int} (g : Good h wd G) : turnT (mkT h wd G) = mkT wd h fun a b => G b a := by
  rw [turnT, if_pos g.valid, mkT_len, mkT_wid _ g.h1]
  exact mkT_ext fun i j hi hj => cel_mk hj hi
theorem Good.turn {h wd : Nat} {G : Nat → Nat → Int} (g : Good h wd G) : Good wd h fun a b => G b a := ⟨g.w1, g.w4, g.h1, g.h4, fun i j => g.lo j i, fun i j => g.hi j i⟩
theorem implTurn_any (A : Option Addr) (c : Nat) (t : List (List Int)) (w : World) (hx : Tab IntV w A t) (hl : t.length ≤ maxLen) :
    Calls Try.prog 15 #[.slice A t.length c] w (GotT IntV 3 w (turnT t) (tabValid t)) := by
  rcases tab_cases t with hv | ⟨h, wd, G, rfl, g⟩
  · refine (implTurn_no A c t w hx hl hv).mono ?_
    rintro e w' ⟨rfl, hb⟩
    rw [turnT_no hv, hv]
    exact ⟨none, 0, rfl, ⟨by simp, by unfold maxLen; omega, fun _ => rfl⟩, Hold.nil_, hb⟩
  · rw [mkT_len, turnT_yes g, g.valid]
    exact implTurn_yes A c h wd G w hx g
end Go.Proofs.Ytkneddahefhedaa
