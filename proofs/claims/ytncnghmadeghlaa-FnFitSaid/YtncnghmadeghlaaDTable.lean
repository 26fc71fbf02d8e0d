/- l92Table: some short table is drawn in new memory. -/
import Derived.Test.YtncnghmadeghlaaDraw
import Derived.Test.YtncnghmadeghlaaDOpen
import Derived.Test.YtncnghmadeghlaaBlank
import Derived.Test.YtncnghmadeghlaaGrowA
import Derived.Deep.Cut
import Derived.Deep.DeepCutAuto
import Derived.Deep.RegionHeld3
import Derived.Deep.RegionWith
namespace Go.Proofs.Ytncnghmadeghlaa
open Go.RowKit
set_option linter.unusedVariables false
/-- what is known of a drawn table -/
def Short (t : List (List Int)) : Prop := t.length ≤ 4 ∧ ∀ r ∈ t, r.length ≤ 5 ∧ ∀ x ∈ r, -1 ≤ x ∧ x ≤ 100
/-- what a draw of a table leaves -/
def DrawnTable (w : World) (B g p : Nat) (e : Ending) (w' : World) : Prop :=
  ∃ A c t p', e = .returned (.slice A (t : List (List Int)).length c) ∧ (t.length ≤ c ∧ c ≤ maxLen) ∧ (∀ w'', w'.grownBy w'' (some g) → Tab IntV w'' A t) ∧ Short t ∧ Rd w' B g p' ∧ p' ≤ p + 100 ∧ w.grownBy w' (some g)
theorem short_mk {h wd : Nat} {F : Nat → Nat → Int} (h4 : h ≤ 4) (w4 : wd ≤ 5) (hF : ∀ i j, i < h → j < wd → -1 ≤ F i j ∧ F i j ≤ 100) : Short (mkT h wd F) := by
  refine ⟨by rw [mkT_len]; exact h4, fun r hr => ?_⟩
  obtain ⟨i, hi, rfl⟩ := mkT_mem.1 hr
  refine ⟨by rw [mkL_len]; exact w4, fun x hx => ?_⟩
  obtain ⟨j, hj, rfl⟩ := mkL_mem.1 hx
  exact hF i j hi hj
/-- a table given by a function: its cell, and what a store leaves -/
theorem Grow.cell_ {w : World} {lo h wd i j : Nat} {T E : TypeId} {v : Value} {vs : Nat → Value} {F : Nat → Nat → Int} (hG : Grow IntV T E lo w v vs (mkT h wd F)) (hi : i < h) (hj : j < wd) :
    ∃ b cap, vs i = .slice (some ⟨b, 0, none⟩) wd cap ∧ lo ≤ b ∧ b < w.heap.size ∧ v.ownBlock ≠ some b ∧ w.cell? ⟨b, j, none⟩ = some (.int .i64 (F i j)) ∧ w.frozen? ⟨b, j, none⟩ = false ∧
      ∀ x, Grow IntV T E lo (w.setCell ⟨b, j, none⟩ (.int .i64 x)) v vs (mkT h wd (up2 F i j x)) := by
  obtain ⟨b, cap, e, h1, h2, h3, h4, h5, h6⟩ := hG.spot (mkT_get F hi) (i := j) (by rw [mkL_len]; exact hj)
  rw [mkL_len] at e
  rw [mkL_at] at h4
  refine ⟨b, cap, e, h1, h2, h3, h4, h5, fun x => ?_⟩
  have := h6 x
  rwa [mkT_set] at this
/-- behind the sizes -/
def SizeRel (w : World) (B g p : Nat) (v : Value) (wx : World) : Prop := ∃ hh q : Nat, v = .int .i64 hh ∧ 1 ≤ hh ∧ hh ≤ 4 ∧ Rd wx B g q ∧ q ≤ p + 4 ∧ w.grownBy wx (some g) ∧ wx.heap.size = w.heap.size
/-- while the table is filled -/
def FillRel (w : World) (B g p lo h wd : Nat) (A : Option Addr) (c : Nat) (vs : Nat → Value) (q : Nat) (wr : World) : Prop :=
  ∃ (F : Nat → Nat → Int) (r : Nat), (∀ i j, -1 ≤ F i j ∧ F i j ≤ 100) ∧ Grow IntV 42 3 lo wr (.slice A h c) vs (mkT h wd F) ∧ Rd wr B g r ∧ r ≤ p + 4 + q ∧ w.grownBy wr (some g)
theorem lit3 {k : Nat} (hk : (k : Int) < 3) : ∃ y : Int, (#[.int .i64 (-1), .int .i64 100, .int .i64 99] : Array Value)[k]? = some (.int .i64 y) ∧ -1 ≤ y ∧ y ≤ 100 := by
  have hk' : k = 0 ∨ k = 1 ∨ k = 2 := by omega
  rcases hk' with rfl | rfl | rfl
  · exact ⟨-1, rfl, by omega, by omega⟩
  · exact ⟨100, rfl, by omega, by omega⟩
  · exact ⟨99, rfl, by omega, by omega⟩
theorem heap_set_congr {w w' : World} {p : Addr} {v : Value} {x : Nat} (h : w'.heap[x]? = w.heap[x]?) : (w'.setCell p v).heap[x]? = (w.setCell p v).heap[x]? := by
  simp [World.setCell, Array.getElem?_modify, h]
theorem drawn_set {w w5 w9 : World} {B g p lo h wd b r c1 gg : Nat} {y : Int} {vs : Nat → Value} {F : Nat → Nat → Int} (hG : Grow IntV 42 3 lo (w5.setCell ⟨b, 0, none⟩ (.int .i64 y)) (.slice (some ⟨gg, 0, none⟩) h c1) vs (mkT h wd F)) (hF : ∀ i j, -1 ≤ F i j ∧ F i j ≤ 100)
    (hg : w.grownBy w5 (some g)) (hg9 : w5.grownBy w9 (some g)) (hr : Rd w9 B g r) (hrp : r ≤ p + 100) (hB : B ≤ lo) (hgl : g < lo) (hwl : w.heap.size ≤ lo) (hlb : lo ≤ b) (h4 : h ≤ 4) (w4 : wd ≤ 5) (hcap : h ≤ c1 ∧ c1 ≤ maxLen) :
    DrawnTable w B g p (.returned (.slice (some ⟨gg, 0, none⟩) h c1)) (w9.setCell ⟨b, 0, none⟩ (.int .i64 y)) := by
  have hk : ∀ x, x < w5.heap.size → lo ≤ x → (w9.setCell ⟨b, 0, none⟩ (.int .i64 y)).heap[x]? = (w5.setCell ⟨b, 0, none⟩ (.int .i64 y)).heap[x]? := fun x hx hl => heap_set_congr (hg9.block x hx (by intro e; injection e with e; omega))
  have hsz : ∀ (W : World) (q : Addr) (v : Value), (W.setCell q v).heap.size = W.heap.size := fun W q v => by simp [World.setCell]
  have hG9 : Grow IntV 42 3 lo (w9.setCell ⟨b, 0, none⟩ (.int .i64 y)) (.slice (some ⟨gg, 0, none⟩) h c1) vs (mkT h wd F) :=
    ⟨own_keep hG.outer fun x hx => hk x (by have := (hG.outer.lt x hx).2; rwa [hsz] at this) (hG.outer.lt x hx).1, fun j r hj => own_keep (hG.row j r hj) fun x hx => hk x (by have := ((hG.row j r hj).lt x hx).2; rwa [hsz] at this) ((hG.row j r hj).lt x hx).1, hG.top, hG.far⟩
  refine ⟨some ⟨gg, 0, none⟩, c1, mkT h wd F, r, by rw [mkT_len], by rw [mkT_len]; exact hcap, fun w'' hg'' => (Grow.hold (A := some ⟨gg, 0, none⟩) (c := c1) (by rw [mkT_len]; exact hG9.kept hg'' hgl)).tab, short_mk h4 w4 (fun x y _ _ => hF x y), hr.keep fun x hx => Below.heap_setCell _ _ _ x (by simp; omega), hrp, ?_⟩
  exact grow_step (hg.trans hg9) (row := some b) ⟨rfl, rfl, rfl, by simp [World.setCell], fun x hx hne => Below.heap_setCell _ _ _ x (fun e => hne (by rw [e]))⟩ (fun x e => .inr (by injection e with e; omega))
theorem drawn_app {w w5 w6 : World} {B g p lo h wd r c1 gg c' : Nat} {A' : Option Addr} {vs : Nat → Value} {F : Nat → Nat → Int} (hG : Grow IntV 42 3 lo w5 (.slice (some ⟨gg, 0, none⟩) h c1) vs (mkT h wd F)) (hF : ∀ i j, -1 ≤ F i j ∧ F i j ≤ 100)
    (hg : w.grownBy w5 (some g)) (ho : w6.ownsRow lo 3 1 (.slice A' (wd + 1) c') (wd + 1) ((mkL wd (F 0)).map IntV ++ [.int .i64 1])) (hg6 : w5.grownBy w6 (vs 0).ownBlock) (hn : ∀ b, (Value.slice A' (wd + 1) c').ownBlock = some b → (vs 0).ownBlock = some b ∨ w5.heap.size ≤ b)
    (hr : Rd w5 B g r) (hrp : r ≤ p + 100) (hB : B ≤ lo) (hgl : g < lo) (hlo : lo ≤ w5.heap.size) (hwl : w.heap.size ≤ lo) (h1 : 1 ≤ h) (h4 : h ≤ 4) (w4 : wd ≤ 4) (hcap : h ≤ c1 ∧ c1 ≤ maxLen) :
    DrawnTable w B g p (.returned (.slice (some ⟨gg, 0, none⟩) h c1)) (w6.setCell ⟨gg, 0, none⟩ (.slice A' (wd + 1) c')) := by
  have hlen : (mkT h wd F).length = h := mkT_len _ _ _
  have hG' : Grow IntV 42 3 lo w5 (.slice (some ⟨gg, 0, none⟩) h c1) vs (mkT h wd F) := hG
  have hrow := hG.row 0 _ (mkT_get F (by omega))
  have hout := hG.outer
  rw [hlen] at hout
  have hgg := hout.lt gg rfl
  have hrb : ∀ b, (vs 0).ownBlock = some b → lo ≤ b ∧ b ≠ gg := fun b e => ⟨(hrow.lt b e).1, fun e2 => hG.top 0 b (by omega) e (by rw [e2]; rfl)⟩
  have hl2 : (mkL wd (F 0) ++ [(1 : Int)]).length = wd + 1 := by simp [mkL_len]
  have htl : ((mkT h wd F).set 0 (mkL wd (F 0) ++ [1])).length = h := by rw [List.length_set, mkT_len]
  have hG2 := hG.app (mkT_get F (by omega)) (r' := mkL wd (F 0) ++ [1]) hl2 (by rw [List.map_append]; exact ho) hg6 hn
  refine ⟨some ⟨gg, 0, none⟩, c1, (mkT h wd F).set 0 (mkL wd (F 0) ++ [1]), r, by rw [htl], by rw [htl]; exact hcap, fun w'' hg'' => (Grow.hold (A := some ⟨gg, 0, none⟩) (c := c1) (by rw [htl]; exact hG2.kept hg'' hgl)).tab, ⟨by rw [htl]; exact h4, fun q hq => ?_⟩, ?_, hrp, ?_⟩
  · rcases List.mem_or_eq_of_mem_set hq with hq | hq
    · obtain ⟨i, hi, rfl⟩ := mkT_mem.1 hq
      refine ⟨by rw [mkL_len]; omega, fun x hx => ?_⟩
      obtain ⟨j, hj, rfl⟩ := mkL_mem.1 hx
      exact hF i j
    · subst hq
      refine ⟨by rw [hl2]; omega, fun x hx => ?_⟩
      rcases List.mem_append.1 hx with hx | hx
      · obtain ⟨j, hj, rfl⟩ := mkL_mem.1 hx
        exact hF 0 j
      · simp at hx; omega
  · refine hr.keep fun x hx => (Below.heap_setCell _ _ _ x (by simp; omega)).trans (hg6.block x (by omega) (fun e => by have := (hrb x e.symm).1; omega))
  · refine grow_step (grow_step hg hg6 (fun k e => .inr (by have := (hrb k e).1; omega))) (row := some gg) ⟨rfl, rfl, rfl, by simp [World.setCell], fun x hx hne => Below.heap_setCell _ _ _ x (fun e => hne (by rw [e]))⟩ (fun x e => .inr (by injection e with e; omega))
theorem DrawnTable.alloc {w W : World} {B g p : Nat} {e : Ending} (h : DrawnTable w B g p e W) (hB : B ≤ w.heap.size) (o : Obj) : DrawnTable w B g p e (W.alloc o) := by
  obtain ⟨A, c, t, p', he, hc, hT, hs, hr, hp, hg⟩ := h
  exact ⟨A, c, t, p', he, hc, fun w'' hg'' => hT w'' ((World.grownBy_alloc _ _ _).trans hg''), hs, hr.alloc (Nat.le_trans hB hg.size) _, hp, hg.trans (World.grownBy_alloc _ _ _)⟩
set_option maxHeartbeats 1000000 in
theorem l92Table_any (B g p most : Nat) (w : World) (hr : Rd w B g p) (hB : B ≤ w.heap.size) (hp : p ≤ 900000) (hm : most ≤ 98) :
    Calls Try.prog 65 #[.pointer (some ⟨g, 0, none⟩), .int .i64 most] w (DrawnTable w B g p) := by
  go_enter Try.func65, Try.ntmps65
  go_wp2_with fail
  refine (pick_int B g p 3 _ hr (by omega) (by omega) (by omega)).mono ?_
  rintro e w1 ⟨k1, rfl, hk1, hr1, hg1, hz1⟩
  have hs1 := hg1.size
  go_wp2_with fail
  refine (pick_int B g (p + 1) 3 _ hr1 (by omega) (by omega) (by omega)).mono ?_
  rintro e w2 ⟨k2, rfl, hk2, hr2, hg2, hz2⟩
  have hs2 := hg2.size
  have hg12 := hg1.trans hg2
  clear hr hr1 hg1 hg2
  go_wp2_with fail
  refine (pick_int B g (p + 1 + 1) 3 _ hr2 (by omega) (by omega) (by omega)).mono ?_
  rintro e w3 ⟨k3, rfl, hk3, hr3, hg3, hz3⟩
  have hs3 := hg3.size
  have hg13 := hg12.trans hg3
  clear hr2 hg12 hg3
  go_upto_if 18 with (fail)
  go_cut [5] (fun v wx => SizeRel w B g p v wx)
  case first =>
    by_cases h3 : k3 = 0
    · subst h3
      go_wp2_with fail
      refine (pick_int B g (p + 1 + 1 + 1) 3 _ hr3 (by omega) (by omega) (by omega)).mono ?_
      rintro e w4 ⟨k4, rfl, hk4, hr4, hg4, hz4⟩
      have hs4 := hg4.size
      go_wp2_with fail
      go_meet
      exact ⟨2 + k4, _, by go_num, by omega, by omega, hr4, by omega, hg13.trans hg4, by omega⟩
    · have h3' : ((k3 : Int) == 0) = false := beq_eq_false_iff_ne.2 (by omega)
      go_wp2_with fail
      go_meet
      exact ⟨1 + k1, _, by go_num, by omega, by omega, hr3, by omega, hg13, by omega⟩
  case rest =>
    obtain ⟨hh, q, rfl, hh1, hh4, hrq, hq, hgq, hzq⟩ := hcut
    clear hr3 hg13
    have e1 : (1 : Int) + (k2 : Int) = ((1 + k2 : Nat) : Int) := by omega
    rw [e1]
    obtain ⟨wd, hwd⟩ : ∃ n, 1 + k2 = n := ⟨_, rfl⟩
    rw [hwd]
    have w1' : 1 ≤ wd := by omega
    have w4' : wd ≤ 3 := by omega
    clear e1 hwd
    go_wp2_with fail
    refine (l11Blank_any hh wd _ (by omega) (by omega)).mono ?_
    rintro e wb ⟨A1, c1, vs, rfl, -, hG, hbb⟩
    have hgB := hrq.lt
    have hcap := hG.cap
    rw [mkT_len] at hcap
    have hbz := hbb.size
    obtain ⟨lo, hlo⟩ : ∃ n, n = wc.heap.size := ⟨_, rfl⟩
    have HF : Hid (FillRel w B g p lo hh wd A1 c1 vs 0 wb) := Lib.hid ⟨fun _ _ => 0, q, fun _ _ => ⟨by simp, by simp⟩, by rw [hlo]; exact hG, hrq.below (hbb.mono (by omega)), by omega, hgq.trans (grow_of_below hbb _)⟩
    have hlB : B ≤ lo := by omega
    have hlw : w.heap.size ≤ lo := by omega
    clear hG hbb hbz hrq hgq hzq hlo
    go_wp2_with fail
    go_loopw [8] (fun i wr => ∃ a : Nat, a ≤ hh ∧ i = .int .i64 a ∧ Hid (FillRel w B g p lo hh wd A1 c1 vs (a * wd) wr)) (fun i _ => hh - (intOf i).toNat)
    case atStart => exact ⟨0, Nat.zero_le _, rfl, by simpa using HF⟩
    case round =>
      clear HF
      obtain ⟨i, hi', rfl, HF⟩ := hrel
      obtain ⟨wo, rfl⟩ : ∃ wo : World, wo = wr := ⟨_, rfl⟩
      by_cases hi : i < hh
      · go_wp2_with fail
        go_loopw [9] (fun v wr => ∃ m : Nat, m ≤ wd ∧ v = .int .i64 m ∧ Hid (FillRel w B g p lo hh wd A1 c1 vs (i * wd + m) wr)) (fun v _ => wd - (intOf v).toNat)
        case atStart => exact ⟨0, Nat.zero_le _, rfl, HF⟩
        case round =>
          clear HF
          obtain ⟨j, hj', rfl, HF⟩ := hrel
          obtain ⟨W, rfl⟩ : ∃ W : World, W = wr := ⟨_, rfl⟩
          by_cases hj : j < wd
          · obtain ⟨F, r, hF, hG, hR, hrb, hgW⟩ := HF.out
            obtain ⟨gg, rfl, hg1, hg2, cO, -⟩ := hG.outer_ (j := i) (by rw [mkT_len]; exact hi)
            obtain ⟨b, cap, hv, hb1, hb2, hb3, cR, fR, -⟩ := hG.cell_ hi hj
            have hne : b ≠ gg := fun e => hb3 (by rw [e]; rfl)
            rw [hv] at cO
            have hbB : r ≤ p + 4 + 16 := by
              have : i * wd ≤ 3 * 3 := Nat.mul_le_mul (by omega) w4'
              omega
            have g1 : (i : Int) < (hh : Int) := by omega
            have g2 : (j : Int) < (wd : Int) := by omega
            have hWz := hgW.size
            have HFF := Lib.hid hF
            have HGG := Lib.hid hG
            have HV := Lib.hid hv
            have HGW := Lib.hid hgW
            have wm : IntKind.i64.wrap ((most : Int) + 1) = (most : Int) + 1 := IntWalk.i64_in _ (by omega)
            clear hF hG hv hgW HF
            go_wp2_with fail
            go_region_held3 (fun w' => w'.cell? ⟨gg, i, none⟩ = some (.slice (some ⟨b, 0, none⟩) wd cap)) (first | exact cO | exact cO9 | (exact (World.cell?_drewN _ _ _).trans cO) | go_keep)
              (first | (go_at_call 66; refine (pick_int B g r ((most : Int) + 1) _ (hR.below (below_drewN (Below.refl _ _) 1)) (by omega) (by omega) (by omega)).mono ?_; rintro e w9 ⟨k9, rfl, hk9, hr9, hg9, hz9⟩; have cO9 : w9.cell? ⟨gg, i, none⟩ = some (.slice (some ⟨b, 0, none⟩) wd cap) := ((hg9.cell_far ⟨gg, i, none⟩ hg2 (by simp; omega)).trans cO); have cR9 : w9.cell? ⟨b, j, none⟩ = some (.int .i64 (F i j)) := ((hg9.cell_far ⟨b, j, none⟩ hb2 (by simp; omega)).trans cR); have fR9 : w9.frozen? ⟨b, j, none⟩ = false := ((World.frozen?_of_block (hg9.block b hb2 (by simp; omega))).trans fR)))
            go_wp2_with fail
            have HF2 : Hid (FillRel w B g p lo hh wd (some ⟨gg, 0, none⟩) c1 vs (i * wd + (j + 1)) (w9.setCell ⟨b, j, none⟩ (.int .i64 k9))) := Lib.hid (by
              have hg9' : W.grownBy w9 (some g) := ⟨hg9.os, hg9.tape, hg9.output, hg9.size, hg9.block⟩
              have hG9 := HGG.out.kept hg9' (by omega)
              obtain ⟨b2, cap2, hv2, hb12, hb22, hb32, -, -, hset⟩ := hG9.cell_ hi hj
              rw [HV.out] at hv2
              injection hv2 with hv2
              injection hv2 with hv2
              injection hv2 with hv2
              subst hv2
              refine ⟨_, r + 1, fun x y => ?_, hset k9, ?_, by omega, ?_⟩
              · unfold up2
                split
                · omega
                · exact HFF.out x y
              · exact hr9.keep fun x hx => Below.heap_setCell _ _ _ x (by simp; omega)
              · exact grow_step (HGW.out.trans hg9') (w2 := w9.setCell ⟨b, j, none⟩ (.int .i64 k9)) (row := some b) ⟨rfl, rfl, rfl, by simp [World.setCell], fun x hx hne => Below.heap_setCell _ _ _ x (fun e => hne (by rw [e]))⟩ (fun x e => .inr (by injection e with e; omega)))
            go_roundw
            case rel => exact ⟨j + 1, by omega, by go_num, HF2⟩
            case measure => simp [intOf]; omega
          · obtain rfl : j = wd := by omega
            have HF2 : Hid (FillRel w B g p lo hh j A1 c1 vs ((i + 1) * j) W) := Lib.hid (by rw [Nat.add_mul, Nat.one_mul]; exact HF.out)
            clear HF
            go_wp2_with fail
            go_roundw
            case rel => exact ⟨i + 1, by omega, by go_num, HF2⟩
            case measure => simp [intOf]; omega
      · obtain rfl : i = hh := by omega
        obtain ⟨F, r, hF, hG, hR, hrb, hgW⟩ := HF.out
        have hWz := hgW.size
        have hbB : r ≤ p + 4 + 16 := by
          have : i * wd ≤ 4 * 3 := Nat.mul_le_mul (by omega) w4'
          omega
        clear HF
        go_wp2_with fail
        refine (pick_int B g r 40 _ hR (by omega) (by omega) (by omega)).mono ?_
        rintro e w5 ⟨k5, rfl, hk5, hr5, hg5, hz5⟩
        have hG5 := hG.kept hg5 (by omega)
        have hg05 := hgW.trans hg5
        have hs5 := hg5.size
        clear hG hR hgW hg5
        have HT5 : Hid (DrawnTable w B g p (.returned (.slice A1 i c1)) w5) := Lib.hid ⟨A1, c1, mkT i wd F, r + 1, by rw [mkT_len], by rw [mkT_len]; exact hcap, fun w'' hg'' => (Grow.hold (A := A1) (c := c1) (by rw [mkT_len]; exact hG5.kept hg'' (by omega))).tab, short_mk (by omega) (by omega) (fun x y _ _ => hF x y), hr5, by omega, hg05⟩
        by_cases c0 : k5 = 0
        · subst c0
          obtain ⟨gg, rfl, hg1, hg2, cO, -⟩ := hG5.outer_ (j := 0) (by rw [mkT_len]; omega)
          obtain ⟨b, cap, hv, hb1, hb2, hb3, cR, fR, hset⟩ := hG5.cell_ (i := 0) (j := 0) (by omega) (by omega)
          have hne : b ≠ gg := fun e => hb3 (by rw [e]; rfl)
          rw [hv] at cO
          have g1 : (0 : Int) < (i : Int) := by omega
          have g2 : (0 : Int) < (wd : Int) := by omega
          have g1' : 0 < i := by omega
          have g2' : 0 < wd := by omega
          have HSET := Lib.hid hset
          have HFF := Lib.hid hF
          have HG05 := Lib.hid hg05
          clear hset hF hG5 hv hg05 HT5
          go_wp2_with fail
          go_region_with
            (first | (go_at_call 66; refine (pick_int B g (r + 1) 3 _ (hr5.keep (fun x hx => ?_)) (by omega) (by omega) (by omega)).mono ?_; (first | rfl | exact Below.heap_alloc w5 _ x (by omega)); rintro e w9 ⟨k9, rfl, hk9, hr9, hg9, hz9⟩; have hbl : ∀ x, x < w5.heap.size → x ≠ g → w9.heap[x]? = w5.heap[x]? := (by intro x hx hne; first | exact (hg9.block x hx (by simpa using hne)) | exact (hg9.block x (by simp; omega) (by simpa using hne)).trans (Below.heap_alloc w5 _ x hx)); have hsz9 : w5.heap.size ≤ w9.heap.size := (by have := hg9.size; first | exact this | (simp at this; omega)); have cO9 := (World.cell?_of_block (w := w5) (a := ⟨gg, 0, none⟩) (hbl gg hg2 (by omega))).trans cO; have cR9 := (World.cell?_of_block (w := w5) (a := ⟨b, 0, none⟩) (hbl b hb2 (by omega))).trans cR; have fR9 := (World.frozen?_of_block (w := w5) (a := ⟨b, 0, none⟩) (hbl b hb2 (by omega))).trans fR; have hg59 : w5.grownBy w9 (some g) := (by first | exact ⟨hg9.os, hg9.tape, hg9.output, hg9.size, hg9.block⟩ | exact (World.grownBy_alloc w5 _ (some g)).trans ⟨hg9.os, hg9.tape, hg9.output, hg9.size, hg9.block⟩); have hb9 : b < w9.heap.size := (by omega); have hg99 : gg < w9.heap.size := (by omega); obtain ⟨y, hy, y0, y1⟩ := lit3 hk9; (first | (have cL9 : w9.cell? ⟨w5.heap.size, k9, none⟩ = some (.int .i64 y) := by (refine (hg9.cell_far ⟨w5.heap.size, k9, none⟩ (by simp) (by simp; omega)).trans ?_; simpa using hy)) | skip)))
          all_goals
            go_wp2_with fail
            go_ret
            have hD := drawn_set (B := B) (p := p) (HSET.out y) (fun a d => by
              unfold up2
              split
              · exact ⟨y0, y1⟩
              · exact HFF.out a d) HG05.out hg59 hr9 (by omega) (by omega) (by omega) (by omega) (by omega) (by omega) (by omega) hcap
            first | exact hD | exact hD.alloc (by omega) _
        · have c0' : ((k5 : Int) == 0) = false := beq_eq_false_iff_ne.2 (by omega)
          by_cases c1 : k5 = 1
          · subst c1
            obtain ⟨gg, rfl, hg1, hg2, cO, fO⟩ := hG5.outer_ (j := 0) (by rw [mkT_len]; omega)
            have hrow := hG5.row 0 _ (mkT_get F (by omega))
            have htop := hG5.top 0
            obtain ⟨Ar, cr, hv, -⟩ := own_slice hrow
            rw [mkL_len] at hv hrow
            rw [hv] at cO hrow
            have g1 : (0 : Int) < (i : Int) := by omega
            have g1' : 0 < i := by omega
            have HG5 := Lib.hid hG5
            have HFF := Lib.hid hF
            have HG05 := Lib.hid hg05
            have HV := Lib.hid hv
            have HTOP := Lib.hid htop
            have hlo5 : lo ≤ w5.heap.size := by omega
            clear hG5 hF hv hg05 HT5 htop
            go_wp2_with (at_builtin; refine appV (.tmp 63) (.tmp 64) _ rfl (by rfl) w5 lo 3 (.int .i64 0) 8 Try.underlying42 nfoI rfl Ar wd cr ((mkL wd (F 0)).map IntV) (by simp [mkL_len]) rfl hrow (.int .i64 1) rfl rfl (by omega) (by omega) hlo5 ?_)
            intro A' c' w6 ho6 hg6 hn6
            have hne : ∀ b, (Value.slice Ar wd cr).ownBlock = some b → b ≠ gg := fun b e e2 => HTOP.out b (by rw [mkT_len]; omega) (by rw [HV.out]; exact e) (by rw [e2]; rfl)
            have hbl : w6.heap[gg]? = w5.heap[gg]? := hg6.block gg hg2 (fun e => hne gg e.symm rfl)
            have cO6 := (World.cell?_of_block (w := w5) (a := ⟨gg, 0, none⟩) hbl).trans cO
            have fO6 := (World.frozen?_of_block (w := w5) (a := ⟨gg, 0, none⟩) hbl).trans fO
            have HD := Lib.hid (drawn_app (B := B) (p := p) HG5.out HFF.out HG05.out ho6 (by rw [HV.out]; exact hg6) (by rw [HV.out]; exact hn6) hr5 (by omega) (by omega) (by omega) hlo5 (by omega) (by omega) (by omega) (by omega) hcap)
            clear hbl hne ho6 hg6 hn6 cO fO hrow
            go_wp2_with fail
            go_ret
            exact HD.out
          · have c1' : ((k5 : Int) == 1) = false := beq_eq_false_iff_ne.2 (by omega)
            by_cases c2 : k5 = 2
            · subst c2
              go_wp2_with fail
              go_ret
              exact ⟨some ⟨w5.heap.size, 0, none⟩, 0, [], r + 1, rfl, ⟨by simp, by unfold maxLen; omega⟩, fun _ _ => Tab.nil_, ⟨by simp, by simp⟩, hr5.alloc (by omega) _, by omega, hg05.trans (World.grownBy_alloc _ _ _)⟩
            · have c2' : ((k5 : Int) == 2) = false := beq_eq_false_iff_ne.2 (by omega)
              go_wp2_with fail
              go_ret
              exact HT5.out
end Go.Proofs.Ytncnghmadeghlaa
