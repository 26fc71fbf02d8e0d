/- sumsOf: the sums of rows and columns of a rectangle. -/
import Derived.Test.YtncnghmadeghlaaCells
import Derived.Test.YtncnghmadeghlaaTailIn
import Derived.Sort.CutIn
import Derived.RegionIn
import Derived.BigRegionIn
namespace Go.Proofs.Ytncnghmadeghlaa
open Go.RowKit Go.Shelf
set_option linter.unusedVariables false
attribute [local go_sem] Oper.semAt_some
/-- the sums of the rows and columns -/
def rowL (h wd : Nat) (G : Nat → Nat → Int) : List Int := mkL h fun i => sumN wd (G i)
def colL (h wd : Nat) (G : Nat → Nat → Int) : List Int := mkL wd fun j => sumN h fun i => G i j
/-- what two lists in new memory are -/
def Two (E : TypeId) (w : World) (xs ys : List Int) (e : Ending) (w' : World) : Prop :=
  ∃ A c B d, e = .returned (.tuple #[.slice A xs.length c, .slice B ys.length d]) ∧ w'.ownsRow w.heap.size E 1 (.slice A xs.length c) xs.length (xs.map IntV) ∧ w'.ownsRow w.heap.size E 1 (.slice B ys.length d) ys.length (ys.map IntV) ∧
    (∀ b, (Value.slice A xs.length c).ownBlock = some b → (Value.slice B ys.length d).ownBlock ≠ some b) ∧ Below w.heap.size w w'
/-- the boxes p, q of two new lists g, k of zeros, whatever their order -/
def SumsRel (w : World) (h wd : Nat) (tv : Value) (u v x y : Value) (wx : World) : Prop :=
  ∃ p q g k : Nat, u = .pointer (some ⟨p, 0, none⟩) ∧ v = .pointer (some ⟨q, 0, none⟩) ∧ x = .slice (some ⟨g, 0, none⟩) h h ∧ y = .slice (some ⟨k, 0, none⟩) wd wd ∧
    (wx.heap[p]? = some (.cells #[.slice (some ⟨g, 0, none⟩) h h] 42 (0, 0)) ∧ wx.heap[q]? = some (.cells #[.slice (some ⟨k, 0, none⟩) wd wd] 42 (0, 0)) ∧
      wx.heap[g]? = some (.cells (madeCells #[.int .i64 0] h) 3 (0, 0)) ∧ wx.heap[k]? = some (.cells (madeCells #[.int .i64 0] wd) 3 (0, 0)) ∧ wx.heap[w.heap.size]? = some (.cells #[tv] 24 (0, 0))) ∧
    (w.heap.size < p ∧ w.heap.size < q ∧ w.heap.size < g ∧ w.heap.size < k ∧ p ≠ q ∧ p ≠ g ∧ p ≠ k ∧ q ≠ g ∧ q ≠ k ∧ g ≠ k) ∧ Below w.heap.size w wx
/-- between two rounds: what has been added up -/
structure SumsI (w : World) (h wd : Nat) (G : Nat → Nat → Int) (tv : Value) (p q g k : Nat) (pre : List (Nat × Nat)) (W : World) : Prop where
  bp : Blk W p 42 #[.slice (some ⟨g, 0, none⟩) h h]
  bq : Blk W q 42 #[.slice (some ⟨k, 0, none⟩) wd wd]
  bt : Blk W w.heap.size 24 #[tv]
  bg : Blk W g 3 ((mkL h fun i => acc G (fun z => z.1 == i) pre).map IntV).toArray
  bk : Blk W k 3 ((mkL wd fun j => acc G (fun z => z.2 == j) pre).map IntV).toArray
  bel : Below w.heap.size w W
  rng : ∀ z ∈ pre, z.1 < h ∧ z.2 < wd
theorem made_mk (z : Value) (n : Nat) : madeCells #[z] n = (mkL n fun _ => z).toArray := by
  apply Array.ext_getElem?
  intro i
  by_cases hi : i < n
  · simp [madeCells, mkL, hi, Nat.mod_one]
  · simp [madeCells, mkL, hi]
theorem acc_row_up (G : Nat → Nat → Int) (pre : List (Nat × Nat)) (i j : Nat) : up1 (fun a => acc G (fun z => z.1 == a) pre) i (acc G (fun z => z.1 == i) pre + G i j) = fun a => acc G (fun z => z.1 == a) (pre ++ [(i, j)]) := by
  funext a
  rw [acc_snoc]
  by_cases h : a = i
  · subst h; simp [up1]
  · simp [up1, h, show ¬ i = a from fun e => h e.symm]
theorem acc_col_up (G : Nat → Nat → Int) (pre : List (Nat × Nat)) (i j : Nat) : up1 (fun a => acc G (fun z => z.2 == a) pre) j (acc G (fun z => z.2 == j) pre + G i j) = fun a => acc G (fun z => z.2 == a) (pre ++ [(i, j)]) := by
  funext a
  rw [acc_snoc]
  by_cases h : a = j
  · subst h; simp [up1]
  · simp [up1, h, show ¬ j = a from fun e => h e.symm]
theorem blk_up {W : World} {g n i : Nat} {t : TypeId} {f : Nat → Int} (h : Blk W g t ((mkL n f).map IntV).toArray) (x : Int) : Blk (W.setCell ⟨g, i, none⟩ (.int .i64 x)) g t ((mkL n (up1 f i x)).map IntV).toArray := by
  have := h.set_ i (.int .i64 x)
  rwa [List.setIfInBounds_toArray, show (Value.int .i64 x) = IntV x from rfl, ← List.map_set, mkL_set] at this
set_option maxRecDepth 100000 in
set_option maxHeartbeats 4000000 in
theorem sumsOf_any (A : Option Addr) (c h wd : Nat) (G : Nat → Nat → Int) (w : World) (hx : Tab IntV w A (mkT h wd G)) (h1 : 1 ≤ h) (h4 : h ≤ 4) (w1 : 1 ≤ wd) (w4 : wd ≤ 4) (hG : ∀ i j, 0 ≤ G i j ∧ G i j ≤ 1000) :
    Calls Try.prog 62 #[.slice A h c] w (Two 3 w (rowL h wd G) (colL h wd G)) := by
  have hmk := run_make_row' (P := Try.prog) 42 3 (.int .i64 0) 8 Try.underlying42 nfoI rfl .i64 .i64 h (by omega) (by omega)
  have hmk2 := run_make_row' (P := Try.prog) 42 3 (.int .i64 0) 8 Try.underlying42 nfoI rfl .i64 .i64 wd (by omega) (by omega)
  obtain ⟨b0, o0, A0, c0, rfl, hb0, hc0, hL0⟩ := hx.mkrow (i := 0) (by omega)
  clear hL0
  simp only [Nat.add_zero] at hc0
  have q1 : b0 < w.heap.size + 1 := by omega
  have q2 : b0 < w.heap.size + 2 := by omega
  have q3 : b0 < w.heap.size + 3 := by omega
  have q4 : b0 < w.heap.size + 4 := by omega
  have q5 : b0 < w.heap.size + 1 + 1 := by omega
  have q6 : b0 < w.heap.size + 1 + 1 + 1 := by omega
  have q7 : b0 < w.heap.size + 1 + 1 + 1 + 1 := by omega
  have HG := Lib.hid hG
  clear hG
  refine (callsIn_wide (n := 5)).1 ?_
  refine callsIn_of_wp_marks Try.func62 rfl trivial ?_ rfl
  simp only [Try.ntmps62, List.size_toArray, List.length_cons, List.length_nil, Nat.reduceAdd, Nat.reduceSub, Array.replicate_succ, Array.replicate_zero, List.push_toArray, List.append_toArray, List.nil_append, List.cons_append]
  gi_wp2_with (refine ⟨trivial, ?_⟩; gi_at_call 74; refine (cellsOf_in Fence.wide _ trivial rfl _ _ _ _).mono ?_; rintro e w' ⟨rfl, rfl⟩)
  gi_cut [4, 5, 10, 15] from 48 (fun u v x y wx => SumsRel w h wd (.slice (some ⟨b0, o0, none⟩) h c) u v x y wx)
  case first =>
    gi_region
    all_goals
      gi_wp2
      gi_meet
      refine ⟨_, _, _, _, rfl, rfl, rfl, rfl, ⟨?_, ?_, ?_, ?_, ?_⟩, by omega, ((((((Below.refl _ _).alloc (Nat.le_refl _) _).alloc (by simp) _).alloc (by simp; omega) _).alloc (by simp; omega) _).alloc (by simp; omega) _).drew⟩
      all_goals (simp only [hp_drew, hp_alloc, World.size_alloc]; repeat (first | rw [if_pos trivial] | rw [if_neg (by omega)]))
  case rest =>
    obtain ⟨p, q, g, k, rfl, rfl, rfl, rfl, ⟨hp, hq, hg, hk, ht⟩, hd, hB⟩ := hcut
    have ct : wc.cell? ⟨w.heap.size, 0, none⟩ = some (.slice (some ⟨b0, o0, none⟩) h c) := (show Blk wc w.heap.size 24 _ from ht).cell 0
    gi_wp2_with (refine ⟨trivial, ?_⟩; gi_at_call 74; refine (cellsOf_in Fence.wide _ trivial rfl _ _ _ _).mono ?_; rintro e w' ⟨rfl, rfl⟩)
    obtain ⟨W0, hW0⟩ : ∃ W0 : World, W0 = wc.alloc (.cells #[.slice (some ⟨b0, o0, none⟩) h c] 24) := ⟨_, rfl⟩
    have hsz0 : W0.heap.size = wc.heap.size + 1 := by rw [hW0]; simp
    have hBz := hB.size
    have hB0 : Below w.heap.size w W0 := by rw [hW0]; exact hB.alloc hBz _
    have cN : W0.cell? ⟨wc.heap.size, 0, none⟩ = some (.slice (some ⟨b0, o0, none⟩) h c) := by rw [hW0]; exact (Blk.new wc 24 _).cell 0
    have al : ∀ (z : Nat) (t : TypeId) (cs : Array Value), Blk wc z t cs → Blk W0 z t cs := fun z t cs hz => by
      rw [hW0]; exact (Below.heap_alloc wc _ z hz.lt).trans hz
    have hI0 : SumsI w h wd G (.slice (some ⟨b0, o0, none⟩) h c) p q g k [] W0 := ⟨al _ _ _ hp, al _ _ _ hq, al _ _ _ ht, al _ _ _ (by rw [made_mk] at hg; simpa [acc, mkL_map, Blk] using hg), al _ _ _ (by rw [made_mk] at hk; simpa [acc, mkL_map, Blk] using hk), hB0, by simp⟩
    rw [← hW0]
    refine wpIn_rangeFunc_ownG rfl (by omega) (gf := 88) (lb := #[.pointer (some ⟨wc.heap.size, 0, none⟩)]) rfl trivial (enters_of Try.func88 (by kernel_rfl) rfl)
      (cells_stops Fence.wide _ trivial rfl (by omega) wc.heap.size h wd G _ c (by omega) (by omega) w W0 hx hB0 (by omega) cN) belowK_t (belowK_b (by omega)) (Below.refl _ _) (fun _ => rfl)
      (fun pre W => SumsI w h wd G (.slice (some ⟨b0, o0, none⟩) h c) p q g k (nn pre) W)
      (fun _ _ _ => False)
      (fun s A B row hs hg hr => ⟨hs.bp.kept hg fun r e => (hr r e).2, hs.bq.kept hg fun r e => (hr r e).2, hs.bt.kept hg fun r e => (hr r e).2, hs.bg.kept hg fun r e => (hr r e).2, hs.bk.kept hg fun r e => (hr r e).2, hs.bel.grown hg hs.bel.size (fun k e => by have := (hr k e).1; omega), hs.rng⟩)
      (fun _ _ _ _ _ hs _ _ => hs)
      hI0
      (fun x => { tmps := #[.slice (some ⟨b0, o0, none⟩) h c, .pointer (some ⟨w.heap.size, 0, none⟩), .slice none 0 0, .slice none 0 0, .pointer (some ⟨p, 0, none⟩), .pointer (some ⟨q, 0, none⟩), .int .i64 x.1.1, .int .i64 x.1.2, u8, u9, .slice (some ⟨g, 0, none⟩) h h, u11, u12, u13, u14, .slice (some ⟨k, 0, none⟩) wd wd, .slice (some ⟨b0, o0, none⟩) h c, .func (.func 88) #[] #[.pointer (some ⟨wc.heap.size, 0, none⟩)], .int .i64 x.1.1, .int .i64 x.1.2, undef, undef, undef, undef, undef, undef, undef, undef, undef, undef, undef, undef, undef, undef, undef, undef, undef, undef, undef, undef, undef, undef, undef, undef, undef, undef, undef, undef], defers := [] }) ?assign ?body ?done ?stop
    case assign =>
      intro l x W K hK
      gi_wp2
      exact hK
    case body =>
      rintro l pre ⟨⟨i, j⟩, hi, hj⟩ W hs hlen
      have hl16 : pre.length ≤ 16 := by
        have : h * wd ≤ 4 * 4 := Nat.mul_le_mul h4 w4
        omega
      obtain ⟨x, ex, x0, x1⟩ : ∃ x : Int, x = acc G (fun z => z.1 == i) (nn pre) ∧ 0 ≤ x ∧ x ≤ 16000 := ⟨_, rfl, by
        have := acc_bound (v := G) (p := fun z => z.1 == i) (M := 1000) (by omega) (pre := nn pre) (fun q _ => HG.out q.1 q.2)
        rw [nn_len] at this; omega⟩
      obtain ⟨y, ey, y0, y1⟩ : ∃ y : Int, y = acc G (fun z => z.2 == j) (nn pre) ∧ 0 ≤ y ∧ y ≤ 16000 := ⟨_, rfl, by
        have := acc_bound (v := G) (p := fun z => z.2 == j) (M := 1000) (by omega) (pre := nn pre) (fun q _ => HG.out q.1 q.2)
        rw [nn_len] at this; omega⟩
      obtain ⟨z, ez, z0, z1⟩ : ∃ z : Int, z = G i j ∧ 0 ≤ z ∧ z ≤ 1000 := ⟨_, rfl, HG.out i j⟩
      obtain ⟨b, o, b', o', c', hA, hbb, c1, hbb', c2, hc', -⟩ := (hx.below hs.bel).mk hi hj
      obtain ⟨rfl, rfl⟩ : b = b0 ∧ o = o0 := by injection hA with hA; injection hA with e1 e2; exact ⟨e1.symm, e2.symm⟩
      rw [← ez] at c2
      have cp := hs.bp.cell 0
      have cq := hs.bq.cell 0
      have ctt := hs.bt.cell 0
      have cg : W.cell? ⟨g, i, none⟩ = some (.int .i64 x) := by rw [hs.bg.cell i, ex]; simp [mkL, hi]
      have ck : W.cell? ⟨k, j, none⟩ = some (.int .i64 y) := by rw [hs.bk.cell j, ey]; simp [mkL, hj]
      have fg := hs.bg.frozen i
      have fk := hs.bk.frozen j
      simp at cp cq ctt
      have g1 : (i : Int) < (h : Int) := by omega
      have g2 : (j : Int) < (wd : Int) := by omega
      have HS := Lib.hid hs
      have EX := Lib.hid ex
      have EY := Lib.hid ey
      have EZ := Lib.hid ez
      clear hs ex ey ez hA hlen
      dsimp only
      gi_wp2
      have hmx : Try.prog.follows .mixedOrders = true := by kernel_rfl
      refine tail_round 13 hmx (by kernel_rfl) (by kernel_rfl) ?_
      simp only [List.take_succ_cons, List.take_zero, List.drop_succ_cons, List.drop_zero]
      repeat still_step
      try refine wpStill_nil ?_
      gi_wp2
      obtain ⟨W1, hW1⟩ : ∃ W1 : World, W1 = (W.setCell ⟨g, i, none⟩ (.int .i64 (x + z))).drew := ⟨_, rfl⟩
      have hfar : ∀ (e : Nat) (t : TypeId) (cs : Array Value), e ≠ g → Blk W e t cs → Blk W1 e t cs := fun e t cs hne hb => by rw [hW1]; exact (hb.far (p := ⟨g, i, none⟩) hne _).drew
      have bq1 := hfar q _ _ hd.2.2.2.2.2.2.2.1 HS.out.bq
      have bp1 := hfar p _ _ hd.2.2.2.2.2.1 HS.out.bp
      have bt1 := hfar w.heap.size _ _ (by omega) HS.out.bt
      have bk1 := hfar k _ _ (fun e => hd.2.2.2.2.2.2.2.2.2 e.symm) HS.out.bk
      have bg1 : Blk W1 g 3 ((mkL h fun a => acc G (fun z => z.1 == a) (nn pre ++ [(i, j)])).map IntV).toArray := by
        rw [hW1, ← acc_row_up, ← EX.out, ← EZ.out]
        exact (blk_up HS.out.bg _).drew
      have hB1 : Below w.heap.size w W1 := by rw [hW1]; exact (HS.out.bel.setCell (p := ⟨g, i, none⟩) (by simp; omega) _).drew
      have hB2 : Below w.heap.size W W1 := by rw [hW1]; exact ((Below.refl _ _).setCell (p := ⟨g, i, none⟩) (by simp; omega) _).drew
      have hKO : KeepsOthers W W1 := by rw [hW1]; exact (KeepsOthers.setCell _ _ _).trans (KeepsOthers.drew _)
      rw [← hW1]
      clear hW1 hfar cp cq ctt cg ck fg fk c1 c2
      obtain ⟨b1, o1, b', o', c', hA, hbb, c1, hbb', c2, hc', -⟩ := (hx.below hB1).mk hi hj
      obtain ⟨rfl, rfl⟩ : b1 = b ∧ o1 = o := by injection hA with hA; injection hA with e1 e2; exact ⟨e1.symm, e2.symm⟩
      rw [← EZ.out] at c2
      have cq := bq1.cell 0
      have ctt := bt1.cell 0
      simp at cq ctt
      have ck : W1.cell? ⟨k, j, none⟩ = some (.int .i64 y) := by rw [bk1.cell j, EY.out]; simp [mkL, hj]
      have fk := bk1.frozen j
      clear hA
      refine tail_round 13 hmx (by kernel_rfl) (by kernel_rfl) ?_
      simp only [List.take_succ_cons, List.take_zero, List.drop_succ_cons, List.drop_zero]
      repeat still_step
      try refine wpStill_nil ?_
      gi_wp2
      refine ⟨(hKO.trans ((KeepsOthers.setCell _ _ _).trans (KeepsOthers.drew _))).from _, hB2.trans ((Below.refl _ _).setCell (p := ⟨k, j, none⟩) (by simp; omega) _).drew, ?_⟩
      refine ⟨(bp1.far (p := ⟨k, j, none⟩) hd.2.2.2.2.2.2.1 _).drew, (bq1.far (p := ⟨k, j, none⟩) hd.2.2.2.2.2.2.2.2.1 _).drew, (bt1.far (p := ⟨k, j, none⟩) (by simp; omega) _).drew, ?_, ?_, (hB1.setCell (p := ⟨k, j, none⟩) (by simp; omega) _).drew, ?_⟩
      · rw [nn_snoc]
        exact (bg1.far (p := ⟨k, j, none⟩) hd.2.2.2.2.2.2.2.2.2 _).drew
      · rw [nn_snoc, ← acc_col_up, ← EY.out, ← EZ.out]
        exact (blk_up bk1 _).drew
      · intro z hz
        rw [nn_snoc] at hz
        rcases List.mem_append.1 hz with hz | hz
        · exact HS.out.rng z hz
        · simp at hz; subst hz; exact ⟨hi, hj⟩
    case done =>
      rintro D ys W hD hS hs hK
      have cp := hs.bp.cell 0
      have cq := hs.bq.cell 0
      simp at cp cq
      gi_wp2
      gi_region
      gi_wp2
      have hK' : W.drew.heap[D]? = some (.deferred (some [])) := hK
      refine ⟨by simp, .inl ⟨_, _, rfl, run_takeDeferred hK', ?_⟩⟩
      refine ⟨_, by simp [results, Try.f62, go_sem]; rfl, ?_⟩
      have eR : (mkL h fun i => acc G (fun z => z.1 == i) (nn ys)) = rowL h wd G := mkL_ext fun i hi => by rw [hS, acc_row, if_pos hi]
      have eC : (mkL wd fun j => acc G (fun z => z.2 == j) (nn ys)) = colL h wd G := mkL_ext fun j hj => by rw [hS, acc_col _ _ _ hj _ _ (Nat.zero_le _)]; simp
      have lR : (rowL h wd G).length = h := mkL_len _ _
      have lC : (colL h wd G).length = wd := mkL_len _ _
      have o1 := (hs.bg.drew).own (base := w.heap.size) (n := h) (by omega) (by simp [mkL_len]) (by unfold maxLen; omega)
      have o2 := (hs.bk.drew).own (base := w.heap.size) (n := wd) (by omega) (by simp [mkL_len]) (by unfold maxLen; omega)
      rw [eR] at o1
      rw [eC] at o2
      refine ⟨some ⟨g, 0, none⟩, h, some ⟨k, 0, none⟩, wd, by rw [lR, lC], ?_, ?_, ?_, ?_⟩
      · rw [lR]; exact ownsRow_putObj o1 _ hK' rfl
      · rw [lC]; exact ownsRow_putObj o2 _ hK' rfl
      · intro b e1 e2
        simp [Value.ownBlock] at e1 e2
        omega
      · exact hs.bel.drew.trans (belowK_b (w := w) (Nat.le_refl _) _ D _ _ (by omega) hK' rfl rfl)
    case stop =>
      rintro D c pre W _ _ h _
      exact h.elim
end Go.Proofs.Ytncnghmadeghlaa
