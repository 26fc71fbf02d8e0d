/- Contracts of TableSums and TableTotal of the reference. -/
import Derived.Test.YtncnghmadeghlaaTotalI
import Derived.Test.YtncnghmadeghlaaTabValidS
import Derived.StillTailTactics
namespace Go.Proofs.Ytncnghmadeghlaa
open Go.RowKit
set_option linter.unusedVariables false
set_option maxHeartbeats 400000 in
theorem specSums_no (A : Option Addr) (c : Nat) (t : List (List Int)) (w : World) (hx : Tab IntV w A t) (hl : t.length ≤ maxLen) (hv : tabValid t = false) :
    Calls Try.prog 69 #[.slice A t.length c] w fun e w' => ∃ a b, e = .returned (.tuple #[.slice a 0 0, .slice b 0 0, .bool false]) ∧ Below w.heap.size w w' := by
  go_enter Try.func69, Try.ntmps69
  go_wp2_with fail
  refine (specTableValid_any A c t _ hx hl).mono ?_
  rintro e w1 ⟨rfl, hq⟩
  go_wp2_with fail
  go_ret3
  exact ⟨_, _, rfl, hq.below.trans (((Below.refl _ _).alloc hq.below.size _).alloc (by have := hq.below.size; simp; omega) _)⟩
/-- between two rounds -/
structure SumsP (w : World) (h wd : Nat) (G : Nat → Nat → Int) (g k : Nat) (pre : List (Nat × Nat)) (W : World) : Prop where
  bg : Blk W g 3 ((mkL h fun i => acc G (fun z => z.1 == i) pre).map IntV).toArray
  bk : Blk W k 3 ((mkL wd fun j => acc G (fun z => z.2 == j) pre).map IntV).toArray
  bel : Below w.heap.size w W
set_option maxRecDepth 100000 in
set_option maxHeartbeats 1000000 in
theorem specSums_yes (A : Option Addr) (c h wd : Nat) (G : Nat → Nat → Int) (w : World) (hx : Tab IntV w A (mkT h wd G)) (g : Good h wd G) :
    Calls Try.prog 69 #[.slice A h c] w (GotLL IntV 3 w (rowL h wd G) (colL h wd G) true) := by
  have hv := g.valid
  have h1 := g.h1
  have h4 := g.h4
  have w1 := g.w1
  have w4 := g.w4
  have hc := specTableValid_any A c (mkT h wd G) w hx (by rw [mkT_len]; have := g.h4; unfold maxLen; omega)
  rw [mkT_len, hv] at hc
  have HC := Lib.hid hc
  clear hc hv
  have hmk := run_make_row' (P := Try.prog) 42 3 (.int .i64 0) 8 Try.underlying42 nfoI rfl .i64 .i64 h (by omega) (by omega)
  have hmk2 := run_make_row' (P := Try.prog) 42 3 (.int .i64 0) 8 Try.underlying42 nfoI rfl .i64 .i64 wd (by omega) (by omega)
  obtain ⟨b0, o0, A0, c0, rfl, hb0, hc0, hL0⟩ := hx.mkrow (i := 0) (by omega)
  clear hL0
  simp only [Nat.add_zero] at hc0
  go_enter Try.func69, Try.ntmps69
  go_wp2_with fail
  refine HC.out.mono ?_
  rintro e wq ⟨rfl, hq⟩
  have hcq : wq.cell? ⟨b0, o0, none⟩ = some (.slice A0 wd c0) := (hq.below.cell (p := ⟨b0, o0, none⟩) hb0).trans hc0
  have hqz := hq.size
  have hb0q : b0 < wq.heap.size := by omega
  have HQ := Lib.hid hq
  have HZ := Lib.hid hqz
  clear hq hqz
  go_wp2_with fail
  obtain ⟨gg, hgg⟩ : ∃ g : Nat, g = wq.heap.size := ⟨_, rfl⟩
  obtain ⟨kk, hkk⟩ : ∃ k : Nat, k = wq.heap.size + 1 := ⟨_, rfl⟩
  have hst : SumsP w h wd G gg kk (cp wd 0 0) ((wq.alloc (.cells (madeCells #[.int .i64 0] h) 3)).alloc (.cells (madeCells #[.int .i64 0] wd) 3)) := by
    subst hgg hkk
    have e1 : ((mkL h fun i => acc G (fun z => z.1 == i) (cp wd 0 0)).map IntV).toArray = madeCells #[.int .i64 0] h := by rw [made_mk]; simp [acc, cp, mkL_map]
    have e2 : ((mkL wd fun j => acc G (fun z => z.2 == j) (cp wd 0 0)).map IntV).toArray = madeCells #[.int .i64 0] wd := by rw [made_mk]; simp [acc, cp, mkL_map]
    refine ⟨?_, ?_, HQ.out.below.trans (((Below.refl _ _).alloc HQ.out.below.size _).alloc (by have := HQ.out.below.size; simp; omega) _)⟩
    · rw [e1]
      exact (Below.heap_alloc (wq.alloc (.cells (madeCells #[.int .i64 0] h) 3)) (.cells (madeCells #[.int .i64 0] wd) 3) wq.heap.size (by simp)).trans (Blk.new wq 3 (madeCells #[.int .i64 0] h))
    · rw [e2]
      have := Blk.new (wq.alloc (.cells (madeCells #[.int .i64 0] h) 3)) 3 (madeCells #[.int .i64 0] wd)
      rwa [World.size_alloc] at this
  have hwg : w.heap.size ≤ gg := by have := HZ.out; omega
  have hne : gg ≠ kk := by omega
  have hwk : w.heap.size ≤ kk := by have := HZ.out; omega
  have HST := Lib.hid hst
  rw [← hkk, ← hgg]
  have HG : Hid (∀ i j, 0 ≤ G i j ∧ G i j ≤ 1000) := Lib.hid fun i j => ⟨g.lo i j, by have := g.hi i j; omega⟩
  have hmx : Try.prog.follows .mixedOrders = true := by kernel_rfl
  clear hst hgg hkk hcq hb0q HQ HZ hmk hmk2 hc0
  go_loopw [7] (fun i wr => ∃ a : Nat, a ≤ h ∧ i = .int .i64 a ∧ Hid (SumsP w h wd G gg kk (cp wd a 0) wr)) (fun i _ => h - (intOf i).toNat)
  case atStart => exact ⟨0, Nat.zero_le _, rfl, HST⟩
  case round =>
    clear HST
    obtain ⟨i, hi', rfl, HP⟩ := hrel
    obtain ⟨wo, rfl⟩ : ∃ wo : World, wo = wr := ⟨_, rfl⟩
    by_cases hi : i < h
    · go_wp2_with fail
      go_loopw [8] (fun v wr => ∃ m : Nat, m ≤ wd ∧ v = .int .i64 m ∧ Hid (SumsP w h wd G gg kk (cp wd i m) wr)) (fun v _ => wd - (intOf v).toNat)
      case atStart => exact ⟨0, Nat.zero_le _, rfl, HP⟩
      case round =>
        clear HP
        obtain ⟨j, hj', rfl, HP⟩ := hrel
        obtain ⟨W, rfl⟩ : ∃ W : World, W = wr := ⟨_, rfl⟩
        have g1 : (i : Int) < (h : Int) := by omega
        by_cases hj : j < wd
        · have hs := HP.out
          have hl16 : (cp wd i j).length ≤ 16 := by
            rw [cp_len]
            have : i * wd ≤ 3 * 4 := Nat.mul_le_mul (by omega) w4
            omega
          obtain ⟨x, ex, x0, x1⟩ : ∃ x : Int, x = acc G (fun z => z.1 == i) (cp wd i j) ∧ 0 ≤ x ∧ x ≤ 16000 := ⟨_, rfl, by
            have := acc_bound (v := G) (p := fun z => z.1 == i) (M := 1000) (by omega) (pre := cp wd i j) (fun q _ => HG.out q.1 q.2)
            omega⟩
          obtain ⟨y, ey, y0, y1⟩ : ∃ y : Int, y = acc G (fun z => z.2 == j) (cp wd i j) ∧ 0 ≤ y ∧ y ≤ 16000 := ⟨_, rfl, by
            have := acc_bound (v := G) (p := fun z => z.2 == j) (M := 1000) (by omega) (pre := cp wd i j) (fun q _ => HG.out q.1 q.2)
            omega⟩
          obtain ⟨z, ez, z0, z1⟩ : ∃ z : Int, z = G i j ∧ 0 ≤ z ∧ z ≤ 1000 := ⟨_, rfl, HG.out i j⟩
          obtain ⟨b, o, b', o', c', hA, hbb, c1, hbb', c2, hc', -⟩ := (hx.below hs.bel).mk hi hj
          obtain ⟨rfl, rfl⟩ : b = b0 ∧ o = o0 := by injection hA with hA; injection hA with e1 e2; exact ⟨e1.symm, e2.symm⟩
          rw [← ez] at c2
          have cg : W.cell? ⟨gg, i, none⟩ = some (.int .i64 x) := by rw [hs.bg.cell i, ex]; simp [mkL, hi]
          have fg := hs.bg.frozen i
          have g2 : (j : Int) < (wd : Int) := by omega
          have EX := Lib.hid ex
          have EY := Lib.hid ey
          have EZ := Lib.hid ez
          clear hs ex ey ez hA hl16
          go_wp2_with fail
          go_still_tail 15, hmx
          go_wp2_with fail
          obtain ⟨W1, hW1⟩ : ∃ W1 : World, W1 = (W.setCell ⟨gg, i, none⟩ (.int .i64 (x + z))).drew := ⟨_, rfl⟩
          have bk1 : Blk W1 kk 3 ((mkL wd fun b => acc G (fun z => z.2 == b) (cp wd i j)).map IntV).toArray := by rw [hW1]; exact (HP.out.bk.far (p := ⟨gg, i, none⟩) (fun e => hne e.symm) _).drew
          have bg1 : Blk W1 gg 3 ((mkL h fun a => acc G (fun z => z.1 == a) (cp wd i j ++ [(i, j)])).map IntV).toArray := by
            rw [hW1, ← acc_row_up, ← EX.out, ← EZ.out]
            exact (blk_up HP.out.bg _).drew
          have hB1 : Below w.heap.size w W1 := by rw [hW1]; exact (HP.out.bel.setCell (p := ⟨gg, i, none⟩) hwg _).drew
          rw [← hW1]
          clear hW1 cg fg c1 c2
          obtain ⟨b1, o1, b', o', c', hA, hbb, c1, hbb', c2, hc', -⟩ := (hx.below hB1).mk hi hj
          obtain ⟨rfl, rfl⟩ : b1 = b ∧ o1 = o := by injection hA with hA; injection hA with e1 e2; exact ⟨e1.symm, e2.symm⟩
          rw [← EZ.out] at c2
          have ck : W1.cell? ⟨kk, j, none⟩ = some (.int .i64 y) := by rw [bk1.cell j, EY.out]; simp [mkL, hj]
          have fk := bk1.frozen j
          clear hA
          go_still_tail 15, hmx
          go_wp2_with fail
          have HP2 : Hid (SumsP w h wd G gg kk (cp wd i (j + 1)) (W1.setCell ⟨kk, j, none⟩ (.int .i64 (y + z))).drew) := Lib.hid (by
            rw [cp_step]
            refine ⟨(bg1.far (p := ⟨kk, j, none⟩) hne _).drew, ?_, (hB1.setCell (p := ⟨kk, j, none⟩) hwk _).drew⟩
            rw [← acc_col_up, ← EY.out, ← EZ.out]
            exact (blk_up bk1 _).drew)
          go_roundw
          case rel => exact ⟨j + 1, by omega, by go_num, HP2⟩
          case measure => simp [intOf]; omega
        · obtain rfl : j = wd := by omega
          obtain ⟨b, o, A', c', hA, hbb, c1, hL⟩ := (hx.below HP.out.bel).mkrow hi
          obtain ⟨rfl, rfl⟩ : b = b0 ∧ o = o0 := by injection hA with hA; injection hA with e1 e2; exact ⟨e1.symm, e2.symm⟩
          have HP2 : Hid (SumsP w h j G gg kk (cp j (i + 1) 0) W) := Lib.hid (by rw [← cp_next]; exact HP.out)
          clear hA hL HP
          go_wp2_with fail
          go_roundw
          case rel => exact ⟨i + 1, by omega, by go_num, HP2⟩
          case measure => simp [intOf]; omega
    · obtain rfl : i = h := by omega
      go_wp2_with fail
      go_ret3
      have hs := HP.out
      have eR : (mkL i fun a => acc G (fun z => z.1 == a) (cp wd i 0)) = rowL i wd G := mkL_ext fun a ha => by rw [acc_row, if_pos ha]
      have eC : (mkL wd fun j => acc G (fun z => z.2 == j) (cp wd i 0)) = colL i wd G := mkL_ext fun j hj => by rw [acc_col _ _ _ hj _ _ (Nat.zero_le _)]; simp
      have lR : (rowL i wd G).length = i := mkL_len _ _
      have lC : (colL i wd G).length = wd := mkL_len _ _
      have o1 := hs.bg.own (base := w.heap.size) (n := i) hwg (by simp [mkL_len]) (by unfold maxLen; omega)
      have o2 := hs.bk.own (base := w.heap.size) (n := wd) hwk (by simp [mkL_len]) (by unfold maxLen; omega)
      rw [eR] at o1
      rw [eC] at o2
      refine ⟨some ⟨gg, 0, none⟩, i, some ⟨kk, 0, none⟩, wd, by rw [lR, lC]; rfl, by rw [lR]; exact o1, by rw [lC]; exact o2, ?_, hs.bel⟩
      intro b e1 e2
      simp [Value.ownBlock] at e1 e2
      omega
end Go.Proofs.Ytncnghmadeghlaa
