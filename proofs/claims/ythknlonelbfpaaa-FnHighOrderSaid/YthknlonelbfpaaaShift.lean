/- shift: the greatest flow of the program. -/
import Derived.Test.YthknlonelbfpaaaShiftW
import Derived.Test.YthknlonelbfpaaaReach
import Derived.Test.YthknlonelbfpaaaCells
import Derived.Test.YthknlonelbfpaaaTailQ
import Derived.Test.YthknlonelbfpaaaStoreR
import Derived.Test.YthknlonelbfpaaaChange
import Derived.Test.YthknlonelbfpaaaEmptyT
import Derived.Sort.CutIn
import Derived.RegionIn
import Derived.BigRegionIn
namespace Go.Proofs.Ythknlonelbfpaaa
open Go.RowKit Go.Shelf Go.BigFrame
set_option linter.unusedVariables false
attribute [local go_sem] Oper.semAt_some
/-- what a flow tells -/
def Shifted (h wd a b : Nat) (G : Nat → Nat → Int) (M : Nat → Nat → Bool) (gr : Bool) (w : World) (e : Ending) (w' : World) : Prop :=
  ∃ f : Int, e = .returned (.int .i64 f) ∧ 0 ≤ f ∧ f ≤ 2000 ∧ (gr = true → IsHigh h wd G M a b (G a b + f)) ∧ (gr = false → IsLow h wd G M a b (max 0 (G a b - f))) ∧ Below w.heap.size w w'
/-- two cells that face each other -/
theorem OwnT.two {E : TypeId} {lo hi g n u v : Nat} {w : World} {vs : Nat → Value} {R : Nat → Nat → Int} (ho : OwnT IntV E lo hi w g vs (mkT n n R)) (hu : u < n) (hv : v < n) (huv : u ≠ v) :
    ∃ b1 c1 b2 c2, (lo ≤ b1 ∧ b1 < hi ∧ lo ≤ b2 ∧ b2 < hi) ∧ b1 ≠ b2 ∧ b1 ≠ g ∧ b2 ≠ g ∧ w.cell? ⟨g, u, none⟩ = some (.slice (some ⟨b1, 0, none⟩) n c1) ∧ w.cell? ⟨g, v, none⟩ = some (.slice (some ⟨b2, 0, none⟩) n c2) ∧
      w.cell? ⟨b1, v, none⟩ = some (.int .i64 (R u v)) ∧ w.cell? ⟨b2, u, none⟩ = some (.int .i64 (R v u)) ∧ w.frozen? ⟨b1, v, none⟩ = false ∧ w.frozen? ⟨b2, u, none⟩ = false ∧
      ∀ x y, OwnT IntV E lo hi ((w.setCell ⟨b1, v, none⟩ (.int .i64 x)).setCell ⟨b2, u, none⟩ (.int .i64 y)) g vs (mkT n n (up2 (up2 R u v x) v u y)) := by
  obtain ⟨b1, c1, e1, h1, h2, h3, h4, h5, h6, -, h7⟩ := ho.cell_ hu hv
  obtain ⟨b2, c2, e2, k1, k2, k3, k4, k5, k6, -, -⟩ := ho.cell_ hv hu
  have hne : b1 ≠ b2 := fun e => ho.far u v b1 (by rw [mkT_len]; exact hu) (by rw [mkT_len]; exact hv) huv (by rw [e1]; rfl) (by rw [e2, e]; rfl)
  refine ⟨b1, c1, b2, c2, ⟨h1, h2, k1, k2⟩, hne, h3, k3, h4, k4, h5, k5, h6, k6, fun x y => ?_⟩
  obtain ⟨b2', c2', e2', -, -, -, -, -, -, -, k7⟩ := (h7 x).cell_ hv hu
  have e : b2' = b2 := by
    rw [e2] at e2'
    injection e2' with e2'
    injection e2' with e2'
    injection e2' with e2'
    exact e2'.symm
  subst e
  exact k7 y
/-- the boxes of shift -/
def Boxes (p0 p1 p2 p3 p4 p5 q a b h : Nat) (tv mv rv : Value) (gr : Bool) (W : World) : Prop :=
  Blk W p0 23 #[tv] ∧ Blk W p1 24 #[mv] ∧ Blk W p2 3 #[.int .i64 a] ∧ Blk W p3 3 #[.int .i64 b] ∧ Blk W p4 4 #[.bool gr] ∧ Blk W p5 3 #[.int .i64 h] ∧ Blk W q 23 #[rv]
/-- between two rounds -/
structure ShiftI (w : World) (h a b n : Nat) (G : Nat → Nat → Int) (M : Nat → Nat → Bool) (gr : Bool) (p1 p2 p3 p4 p5 q : Nat) (tv mv rv : Value) (lo hi g : Nat) (vs : Nat → Value) (pre : List (Nat × Nat)) (W : World) : Prop where
  box : Boxes w.heap.size p1 p2 p3 p4 p5 q a b h tv mv rv gr W
  own : OwnT IntV 3 lo hi W g vs (mkT n n (roomP h a b M G gr pre))
  bel : Below w.heap.size w W
theorem Boxes.map {p0 p1 p2 p3 p4 p5 q a b h : Nat} {tv mv rv : Value} {gr : Bool} {W W' : World} (hb : Boxes p0 p1 p2 p3 p4 p5 q a b h tv mv rv gr W) (hk : ∀ g t cs, Blk W g t cs → (g = p0 ∨ g = p1 ∨ g = p2 ∨ g = p3 ∨ g = p4 ∨ g = p5 ∨ g = q) → Blk W' g t cs) : Boxes p0 p1 p2 p3 p4 p5 q a b h tv mv rv gr W' :=
  ⟨hk _ _ _ hb.1 (.inl rfl), hk _ _ _ hb.2.1 (.inr (.inl rfl)), hk _ _ _ hb.2.2.1 (.inr (.inr (.inl rfl))), hk _ _ _ hb.2.2.2.1 (.inr (.inr (.inr (.inl rfl)))), hk _ _ _ hb.2.2.2.2.1 (.inr (.inr (.inr (.inr (.inl rfl))))), hk _ _ _ hb.2.2.2.2.2.1 (.inr (.inr (.inr (.inr (.inr (.inl rfl)))))), hk _ _ _ hb.2.2.2.2.2.2 (.inr (.inr (.inr (.inr (.inr (.inr rfl))))))⟩
theorem ShiftI.skip {w W : World} {h a b n : Nat} {G : Nat → Nat → Int} {M : Nat → Nat → Bool} {gr : Bool} {p1 p2 p3 p4 p5 q : Nat} {tv mv rv : Value} {lo hi g : Nat} {vs : Nat → Value} {pre : List (Nat × Nat)} {k l : Nat} (hs : ShiftI w h a b n G M gr p1 p2 p3 p4 p5 q tv mv rv lo hi g vs pre W) (hno : ¬ Mov a b M k l) : ShiftI w h a b n G M gr p1 p2 p3 p4 p5 q tv mv rv lo hi g vs (pre ++ [(k, l)]) W :=
  ⟨hs.box, by rw [roomP_skip hno]; exact hs.own, hs.bel⟩
theorem Boxes.turns {p0 p1 p2 p3 p4 p5 q a b h lo hi : Nat} {tv mv rv : Value} {gr : Bool} {W W' : World} (hb : Boxes p0 p1 p2 p3 p4 p5 q a b h tv mv rv gr W) (ht : Turns lo hi W W') (hl : p0 < lo ∧ p1 < lo ∧ p2 < lo ∧ p3 < lo ∧ p4 < lo ∧ p5 < lo) (hq : hi ≤ q) : Boxes p0 p1 p2 p3 p4 p5 q a b h tv mv rv gr W' :=
  hb.map fun g t cs hz hm => (ht.block g hz.lt (by rcases hm with e | e | e | e | e | e | e <;> omega)).trans hz
theorem Boxes.cells {p0 p1 p2 p3 p4 p5 q a b h : Nat} {tv mv rv : Value} {gr : Bool} {W : World} (hb : Boxes p0 p1 p2 p3 p4 p5 q a b h tv mv rv gr W) : W.cell? ⟨p0, 0, none⟩ = some tv ∧ W.cell? ⟨p1, 0, none⟩ = some mv ∧ W.cell? ⟨p2, 0, none⟩ = some (.int .i64 a) ∧ W.cell? ⟨p3, 0, none⟩ = some (.int .i64 b) ∧ W.cell? ⟨p4, 0, none⟩ = some (.bool gr) ∧ W.cell? ⟨p5, 0, none⟩ = some (.int .i64 h) ∧ W.cell? ⟨q, 0, none⟩ = some rv :=
  ⟨by rw [hb.1.cell]; rfl, by rw [hb.2.1.cell]; rfl, by rw [hb.2.2.1.cell]; rfl, by rw [hb.2.2.2.1.cell]; rfl, by rw [hb.2.2.2.2.1.cell]; rfl, by rw [hb.2.2.2.2.2.1.cell]; rfl, by rw [hb.2.2.2.2.2.2.cell]; rfl⟩
/-- while the flow grows -/
def MainI (h wd a b n : Nat) (G : Nat → Nat → Int) (M : Nat → Nat → Bool) (gr : Bool) (lo hi g : Nat) (vs : Nat → Value) (W : World) (f : Int) (wr : World) : Prop :=
  ∃ X, FitG h wd G M a b X ∧ X a b = G a b + (if gr then f else -f) ∧ (∃ Z, FitG h wd G M a b Z ∧ 0 ≤ Z a b ∧ Z a b = max 0 (X a b)) ∧ OwnT IntV 3 lo hi wr g vs (mkT n n (roomX h a b M G gr X)) ∧ Turns lo hi W wr
set_option maxRecDepth 100000 in
set_option maxHeartbeats 8000000 in
theorem shift_any (A B : Option Addr) (c d h wd a b : Nat) (G : Nat → Nat → Int) (M : Nat → Nat → Bool) (gr : Bool) (w : World) (hx : Tab IntV w A (mkT h wd G)) (hy : Tab BoolV w B (mkT h wd M)) (gd : Good h wd G) (ha : a < h) (hb : b < wd) (hM : M a b = true) :
    Calls Try.prog 21 #[.slice A h c, .slice B h d, .int .i64 a, .int .i64 b, .bool gr] w (Shifted h wd a b G M gr w) := by
  have h1 := gd.h1
  have h4 := gd.h4
  have w1 := gd.w1
  have w4 := gd.w4
  have hF : ∀ i j, 0 ≤ G i j ∧ G i j ≤ 99 := fun i j => ⟨gd.lo i j, gd.hi i j⟩
  obtain ⟨b0, o0, A0, c0, rfl, hb0, hc0, hL0⟩ := hx.mkrow (i := 0) (by omega)
  clear hL0
  simp only [Nat.add_zero] at hc0
  have q1 : b0 < w.heap.size + 1 := by omega
  have q2 : b0 < w.heap.size + 1 + 1 := by omega
  have q3 : b0 < w.heap.size + 1 + 1 + 1 := by omega
  have q4 : b0 < w.heap.size + 1 + 1 + 1 + 1 := by omega
  have q5 : b0 < w.heap.size + 1 + 1 + 1 + 1 + 1 := by omega
  have q6 : b0 < w.heap.size + 2 := by omega
  have q7 : b0 < w.heap.size + 3 := by omega
  have q8 : b0 < w.heap.size + 4 := by omega
  have q9 : b0 < w.heap.size + 5 := by omega
  have g0 : (0 : Int) < (h : Int) := by omega
  have g0' : 0 < h := by omega
  obtain ⟨n, hn⟩ : ∃ n, n = h + wd := ⟨_, rfl⟩
  have hnI : (h : Int) + (wd : Int) = (n : Int) := by omega
  have hn8 : n ≤ 8 := by omega
  have HNE := Lib.hid hn
  clear hn
  refine (callsIn_wide (n := 5)).1 ?_
  refine callsIn_of_wp_marks Try.func21 rfl trivial ?_ rfl
  simp only [Try.ntmps21, List.size_toArray, List.length_cons, List.length_nil, Nat.reduceAdd, Nat.reduceSub, Array.replicate_succ, Array.replicate_zero, List.push_toArray, List.append_toArray, List.nil_append, List.cons_append]
  gi_wp2
  gi_region
  obtain ⟨Wb, hWb⟩ : ∃ Wb : World, Wb = ((((((w.alloc (.cells #[.slice (some ⟨b0, o0, none⟩) h c] 23)).alloc (.cells #[.slice B h d] 24)).alloc (.cells #[.int .i64 a] 3)).alloc (.cells #[.int .i64 b] 3)).alloc (.cells #[.bool gr] 4)).alloc (.cells #[.int .i64 h] 3)).drew := ⟨_, rfl⟩
  rw [← hWb]
  obtain ⟨p1, hp1⟩ : ∃ p, w.heap.size + 1 = p := ⟨_, rfl⟩
  obtain ⟨p2, hp2⟩ : ∃ p, p1 + 1 = p := ⟨_, rfl⟩
  obtain ⟨p3, hp3⟩ : ∃ p, p2 + 1 = p := ⟨_, rfl⟩
  obtain ⟨p4, hp4⟩ : ∃ p, p3 + 1 = p := ⟨_, rfl⟩
  obtain ⟨p5, hp5⟩ : ∃ p, p4 + 1 = p := ⟨_, rfl⟩
  have hsz : Wb.heap.size = p5 + 1 := by rw [hWb]; simp; omega
  have b0' : Blk Wb w.heap.size 23 #[.slice (some ⟨b0, o0, none⟩) h c] := by
    rw [hWb]
    simp only [Blk, hp_drew, hp_alloc, World.size_alloc]
    repeat (first | rw [if_pos trivial] | rw [if_neg (by omega)])
  have b1' : Blk Wb p1 24 #[.slice B h d] := by
    rw [hWb, ← hp1]
    simp only [Blk, hp_drew, hp_alloc, World.size_alloc]
    repeat (first | rw [if_pos trivial] | rw [if_neg (by omega)])
  have b2' : Blk Wb p2 3 #[.int .i64 a] := by
    rw [hWb, ← hp2, ← hp1]
    simp only [Blk, hp_drew, hp_alloc, World.size_alloc]
    repeat (first | rw [if_pos trivial] | rw [if_neg (by omega)])
  have b3' : Blk Wb p3 3 #[.int .i64 b] := by
    rw [hWb, ← hp3, ← hp2, ← hp1]
    simp only [Blk, hp_drew, hp_alloc, World.size_alloc]
    repeat (first | rw [if_pos trivial] | rw [if_neg (by omega)])
  have b4' : Blk Wb p4 4 #[.bool gr] := by
    rw [hWb, ← hp4, ← hp3, ← hp2, ← hp1]
    simp only [Blk, hp_drew, hp_alloc, World.size_alloc]
    repeat (first | rw [if_pos trivial] | rw [if_neg (by omega)])
  have b5' : Blk Wb p5 3 #[.int .i64 h] := by
    rw [hWb, ← hp5, ← hp4, ← hp3, ← hp2, ← hp1]
    simp only [Blk, hp_drew, hp_alloc, World.size_alloc]
    repeat (first | rw [if_pos trivial] | rw [if_neg (by omega)])
  have hBb : Below w.heap.size w Wb := by
    rw [hWb]
    exact (((((((Below.refl _ _).alloc (Nat.le_refl _) _).alloc (by simp) _).alloc (by simp; omega) _).alloc (by simp; omega) _).alloc (by simp; omega) _).alloc (by simp; omega) _).drew
  rw [hp1, hp2, hp3, hp4, hp5]
  have c5 : Wb.cell? ⟨p5, 0, none⟩ = some (.int .i64 h) := by rw [b5'.cell 0]; rfl
  have HBL := Lib.hid (show Blk Wb w.heap.size 23 #[.slice (some ⟨b0, o0, none⟩) h c] ∧ Blk Wb p1 24 #[.slice B h d] ∧ Blk Wb p2 3 #[.int .i64 a] ∧ Blk Wb p3 3 #[.int .i64 b] ∧ Blk Wb p4 4 #[.bool gr] ∧ Blk Wb p5 3 #[.int .i64 h] from ⟨b0', b1', b2', b3', b4', b5'⟩)
  have HBB := Lib.hid hBb
  clear hWb b0' b1' b2' b3' b4' b5' hBb q1 q2 q3 q4 q5 q6 q7 q8 q9 hc0
  gi_wp2
  refine ⟨trivial, ?_⟩
  refine (callsIn_wide.2 (emptyTable_mk n n _ (by omega) (by omega))).mono ?_
  rintro e w9 ⟨g, cc, vs, rfl, hcc, hT, hb9⟩
  have hs9 := hb9.size
  have cT : w9.cell? ⟨w.heap.size, 0, none⟩ = some (.slice (some ⟨b0, o0, none⟩) h c) := (hb9.cell (p := ⟨w.heap.size, 0, none⟩) (by show w.heap.size < Wb.heap.size; omega)).trans (by rw [HBL.out.1.cell 0]; rfl)
  have s0 : w.heap.size < w9.heap.size := by omega
  have HT := Lib.hid hT
  have HB9 := Lib.hid hb9
  clear hT hb9
  gi_wp2
  refine ⟨trivial, ?_⟩
  refine (cellsOf_in Fence.wide _ trivial rfl _ _ _ _).mono ?_
  rintro e w' ⟨rfl, rfl⟩
  gi_wp2
  have hmx : Try.prog.follows .mixedOrders = true := by kernel_rfl
  obtain ⟨W0, hW0⟩ : ∃ W0 : World, W0 = (w9.alloc (.cells #[.slice (some ⟨g, 0, none⟩) n cc] 23)).alloc (.cells #[.slice (some ⟨b0, o0, none⟩) h c] 23) := ⟨_, rfl⟩
  have hsz0 : W0.heap.size = w9.heap.size + 2 := by rw [hW0]; simp
  have hB90 : Below w9.heap.size w9 W0 := by rw [hW0]; exact ((Below.refl _ _).alloc (Nat.le_refl _) _).alloc (by simp) _
  have hBw0 : Below w.heap.size w W0 := (HBB.out.trans (HB9.out.mono HBB.out.size)).trans (hB90.mono (by omega))
  have cN : W0.cell? ⟨w9.heap.size + 1, 0, none⟩ = some (.slice (some ⟨b0, o0, none⟩) h c) := by
    rw [hW0]
    have := (Blk.new (w9.alloc (.cells #[.slice (some ⟨g, 0, none⟩) n cc] 23)) 23 #[.slice (some ⟨b0, o0, none⟩) h c]).cell 0
    rw [World.size_alloc] at this
    exact this
  have hI0 : ShiftI w h a b n G M gr p1 p2 p3 p4 p5 w9.heap.size (.slice (some ⟨b0, o0, none⟩) h c) (.slice B h d) (.slice (some ⟨g, 0, none⟩) n cc) Wb.heap.size w9.heap.size g vs [] W0 := by
    have hbl := HBL.out
    have hm : ∀ z t cs, Blk Wb z t cs → Blk W0 z t cs := fun z t cs hz => (hz.below HB9.out hz.lt).below hB90 (by have := hz.lt; omega)
    refine ⟨⟨hm _ _ _ hbl.1, hm _ _ _ hbl.2.1, hm _ _ _ hbl.2.2.1, hm _ _ _ hbl.2.2.2.1, hm _ _ _ hbl.2.2.2.2.1, hm _ _ _ hbl.2.2.2.2.2, ?_⟩, ?_, hBw0⟩
    · rw [hW0]; exact (Blk.new w9 23 #[.slice (some ⟨g, 0, none⟩) n cc]).alloc _
    · rw [roomP_nil]; exact HT.out.below hB90
  have hlo : Wb.heap.size = p5 + 1 := hsz
  rw [← hW0]
  refine wpIn_rangeFunc_ownG rfl (by omega) (gf := 38) (lb := #[.pointer (some ⟨w9.heap.size + 1, 0, none⟩)]) rfl trivial (enters_of Try.func38 (by kernel_rfl) rfl)
    (cells_stops Fence.wide _ trivial rfl (by omega) (w9.heap.size + 1) h wd G _ c (by omega) (by omega) w W0 hx hBw0 (by omega) cN) belowK_t (belowK_b (by omega)) (Below.refl _ _) (fun _ => rfl)
    (fun pre W => ShiftI w h a b n G M gr p1 p2 p3 p4 p5 w9.heap.size (.slice (some ⟨b0, o0, none⟩) h c) (.slice B h d) (.slice (some ⟨g, 0, none⟩) n cc) Wb.heap.size w9.heap.size g vs (nn pre) W)
    (fun _ _ _ => False)
    (fun s A B row hs hg hr => ⟨hs.box.map fun z t cs hz _ => hz.kept hg fun r e => (hr r e).2, hs.own.keep hg.size (fun i _ hi' => hg.block i (by have := hs.own.hin; omega) (fun e => by have := (hr i e.symm).1; omega)), hs.bel.grown hg hs.bel.size (fun k e => by have := (hr k e).1; omega)⟩)
    (fun _ _ _ _ _ hs _ _ => hs)
    hI0
    (fun x => { tmps := #[.slice (some ⟨b0, o0, none⟩) h c, .slice B h d, .int .i64 a, .int .i64 b, .bool gr, .pointer (some ⟨w.heap.size, 0, none⟩), .pointer (some ⟨p1, 0, none⟩), .pointer (some ⟨p2, 0, none⟩), .pointer (some ⟨p3, 0, none⟩), .pointer (some ⟨p4, 0, none⟩), .int .i64 0, .pointer (some ⟨p5, 0, none⟩), .int .i64 wd, .pointer (some ⟨w9.heap.size, 0, none⟩), .int .i64 x.1.1, .int .i64 x.1.2, undef, undef, undef, undef, undef, undef, undef, .slice (some ⟨b0, o0, none⟩) h c, .int .i64 h, .slice (some ⟨b0, o0, none⟩) h c, .pointer (some ⟨b0, o0, none⟩), .slice A0 wd c0, .int .i64 wd, .int .i64 h, .int .i64 wd, .int .i64 n, .int .i64 h, .int .i64 wd, .int .i64 n, .slice (some ⟨g, 0, none⟩) n cc, .slice (some ⟨b0, o0, none⟩) h c, .func (.func 38) #[] #[.pointer (some ⟨w9.heap.size + 1, 0, none⟩)], .int .i64 x.1.1, .int .i64 x.1.2, undef, undef, undef, undef, undef, undef, undef, undef, undef, undef, undef, undef, undef, undef, undef, undef, undef, undef, undef, undef, undef, undef, undef, undef, undef, undef, undef, undef, undef, undef, undef, undef, undef, undef, undef, undef, undef, undef, undef, undef, undef, undef, undef, undef, undef, undef, undef, undef, undef, undef, undef, undef, undef, undef, undef, undef, undef, undef, undef, undef, undef, undef, undef, undef, undef, undef, undef, undef, undef, undef, undef, undef, undef, undef, undef, undef, undef, undef, undef, undef, undef, undef, undef, undef, undef, undef, undef, undef, undef, undef, undef, undef, undef, undef, undef, undef, undef, undef, undef, undef, undef, undef, undef, undef, undef, undef, undef, undef, undef, undef, undef, undef, undef, undef, undef, undef, undef, undef, undef, undef, undef, undef, undef, undef, undef, undef, undef, undef, undef, undef, undef, undef, undef, undef], defers := [] }) ?assign ?body ?done ?stop
  case assign =>
    intro l x W K hK
    gi_wp2
    exact hK
  case body => as_aux_lemma =>
    rintro r pre ⟨⟨k, l⟩, hk, hl⟩ W hs hlen
    dsimp only at hk hl
    obtain ⟨mb, mo, mb', mo', mc', rfl, hmb, m1, hmb', m2, -⟩ := (hy.below hs.bel).mk hk hl
    obtain ⟨m, hm⟩ : ∃ m, M k l = m := ⟨_, rfl⟩
    rw [hm] at m2
    have e0 := hs.box.1.cell 0
    have e1 := hs.box.2.1.cell 0
    have e2 := hs.box.2.2.1.cell 0
    have e3 := hs.box.2.2.2.1.cell 0
    have e4 := hs.box.2.2.2.2.1.cell 0
    have e5 := hs.box.2.2.2.2.2.1.cell 0
    have e6 := hs.box.2.2.2.2.2.2.cell 0
    simp at e0 e1 e2 e3 e4 e5 e6
    have k1 : (k : Int) < (h : Int) := by omega
    have l1 : (l : Int) < (wd : Int) := by omega
    have HS := Lib.hid hs
    have HMM := Lib.hid hm
    clear hs hm hlen
    cases m
    · have hno : ¬ Mov a b M k l := fun e => by rw [e.1] at HMM; cases HMM.out
      gi_wp2
      refine ⟨(KeepsOthers.refl _).from _, Below.refl _ _, ?_⟩
      dsimp only
      rw [nn_snoc]
      exact HS.out.skip hno
    · by_cases hown : k = a ∧ l = b
      · have f1 : ((k : Int) == (a : Int)) = true := beq_iff_eq.2 (by omega)
        have f2 : ((l : Int) == (b : Int)) = true := beq_iff_eq.2 (by omega)
        have hno : ¬ Mov a b M k l := fun e => e.2 hown
        have HNO := Lib.hid hno
        clear hown hno
        gi_wp2
        refine ⟨(KeepsOthers.refl _).from _, Below.refl _ _, ?_⟩
        dsimp only
        rw [nn_snoc]
        exact HS.out.skip HNO.out
      · have hmov : Mov a b M k l := ⟨HMM.out, hown⟩
        obtain ⟨b1, o1, t1, t2, t3, hA, hbb, x1, hbb', x2, -⟩ := (hx.below HS.out.bel).mk hk hl
        obtain ⟨rfl, rfl⟩ : b1 = b0 ∧ o1 = o0 := by injection hA with hA; injection hA with e1 e2; exact ⟨e1.symm, e2.symm⟩
        obtain ⟨x, hxx⟩ : ∃ x, G k l = x := ⟨_, rfl⟩
        rw [hxx] at x2
        obtain ⟨s, hs'⟩ : ∃ s, h + l = s := ⟨_, rfl⟩
        have hsI : (h : Int) + (l : Int) = (s : Int) := by omega
        have hsn : s < n := by have := HNE.out; omega
        have hkn : k < n := by have := HNE.out; omega
        obtain ⟨r1, cr1, r2, cr2, hrr, hr12, hr1g, hr2g, y1, y2, y3, y4, y5, y6, htwo⟩ := HS.out.own.two hkn hsn (by omega)
        have HXX := Lib.hid hxx
        have HS' := Lib.hid hs'
        have s1 : (s : Int) < (n : Int) := by omega
        have kn1 : (k : Int) < (n : Int) := by omega
        have hr21 : r2 ≠ r1 := fun e => hr12 e.symm
        have hhi := HS.out.own.hin
        have f12 : (((k : Int) == (a : Int)) = false) ∨ (((k : Int) == (a : Int)) = true ∧ ((l : Int) == (b : Int)) = false) := by
          by_cases e : k = a
          · exact .inr ⟨beq_iff_eq.2 (by omega), beq_eq_false_iff_ne.2 (fun e2 => hown ⟨e, by omega⟩)⟩
          · exact .inl (beq_eq_false_iff_ne.2 (by omega))
        clear hA hxx hs' hown
        rcases f12 with f1 | ⟨f1, f2⟩
        all_goals
          cases gr
          · as_aux_lemma =>
              have HEND : Hid (ShiftI w h a b n G M false p1 p2 p3 p4 p5 w9.heap.size (.slice (some ⟨b1, o1, none⟩) h c) (.slice (some ⟨mb, mo, none⟩) h d) (.slice (some ⟨g, 0, none⟩) n cc) Wb.heap.size w9.heap.size g vs (nn (pre ++ [⟨(k, l), hk, hl⟩])) ((W.setCell ⟨r1, s, none⟩ (.int .i64 3168)).setCell ⟨r2, k, none⟩ (.int .i64 x)).drew) := Lib.hid (by
                have h2 := htwo 3168 x
                have e := roomP_set (b := b) (G := G) (gr := false) (pre := nn pre) hk hmov
                rw [HXX.out, HS'.out] at e
                simp at e
                rw [e, ← nn_snoc pre ⟨(k, l), hk, hl⟩] at h2
                exact ⟨(HS.out.box.map fun z t cs hz hzz => ((hz.far (p := ⟨r1, s, none⟩) (by simp; omega) _).far (p := ⟨r2, k, none⟩) (by simp; omega) _).drew), h2.below (below_drewN (Below.refl _ _) 1), ((HS.out.bel.setCell (p := ⟨r1, s, none⟩) (by simp; omega) _).setCell (p := ⟨r2, k, none⟩) (by simp; omega) _).drew⟩)
              have HKO : Hid (KeepsOthers W ((W.setCell ⟨r1, s, none⟩ (.int .i64 3168)).setCell ⟨r2, k, none⟩ (.int .i64 x)).drew) := Lib.hid ((KeepsOthers.setCell _ _ _).trans ((KeepsOthers.setCell _ _ _).trans (KeepsOthers.drew _)))
              have HBE : Hid (Below w.heap.size W ((W.setCell ⟨r1, s, none⟩ (.int .i64 3168)).setCell ⟨r2, k, none⟩ (.int .i64 x)).drew) := Lib.hid ((((Below.refl _ _).setCell (p := ⟨r1, s, none⟩) (by simp; omega) _).setCell (p := ⟨r2, k, none⟩) (by simp; omega) _).drew)
              clear htwo
              gi_wp2
              obtain ⟨I, fI, hne, hI⟩ : ∃ (I : Type) (fI : I → World), Nonempty I ∧ ∀ W', (∃ i, W' = fI i) ↔ (W' = W.drew ∨ W' = W.drew.setCell ⟨r1, s, none⟩ (.int .i64 3168) ∨ W' = (W.drew.setCell ⟨r1, s, none⟩ (.int .i64 3168)).setCell ⟨r2, k, none⟩ (.int .i64 x)) :=
                ⟨{ W' // W' = W.drew ∨ W' = W.drew.setCell ⟨r1, s, none⟩ (.int .i64 3168) ∨ W' = (W.drew.setCell ⟨r1, s, none⟩ (.int .i64 3168)).setCell ⟨r2, k, none⟩ (.int .i64 x) }, Subtype.val, ⟨⟨W.drew, .inl rfl⟩⟩, fun W' => ⟨fun ⟨i, e⟩ => e ▸ i.2, fun h => ⟨⟨W', h⟩, rfl⟩⟩⟩
              have hcl : ∀ (p : Addr) v, p.block ≠ r1 → p.block ≠ r2 → W.cell? p = some v → ∀ i, (fI i).cell? p = some v := fun p v n1 n2 hp i => by
                have hb1 : ∀ (V : World) (q : Addr) (u : Value), q.block ≠ p.block → (V.setCell q u).cell? p = V.cell? p := fun V q u hq => World.cell?_of_block (Below.heap_setCell V q u p.block (fun e => hq e.symm))
                rcases (hI (fI i)).1 ⟨i, rfl⟩ with e | e | e
                · rw [e]; exact hp
                · rw [e, hb1 _ _ _ (fun e => n1 e.symm)]; exact hp
                · rw [e, hb1 _ _ _ (fun e => n2 e.symm), hb1 _ _ _ (fun e => n1 e.symm)]; exact hp
              have hi6 := hcl ⟨w9.heap.size, 0, none⟩ _ (by simp; omega) (by simp; omega) e6
              have hi5 := hcl ⟨p5, 0, none⟩ _ (by simp; omega) (by simp; omega) e5
              have hiy1 := hcl ⟨g, k, none⟩ _ (fun e => hr1g e.symm) (fun e => hr2g e.symm) y1
              have hiy2 := hcl ⟨g, s, none⟩ _ (fun e => hr1g e.symm) (fun e => hr2g e.symm) y2
              have y4' : (W.drew.setCell ⟨r1, s, none⟩ (.int .i64 3168)).cell? ⟨r2, k, none⟩ = some (.int .i64 (roomP h a b M G false (nn pre) s k)) := (World.cell?_of_block (w := W) (a := ⟨r2, k, none⟩) (Below.heap_setCell W.drew ⟨r1, s, none⟩ _ r2 hr21)).trans y4
              have y6' : (W.drew.setCell ⟨r1, s, none⟩ (.int .i64 3168)).frozen? ⟨r2, k, none⟩ = false := (World.frozen?_of_block (w := W) (a := ⟨r2, k, none⟩) (Below.heap_setCell W.drew ⟨r1, s, none⟩ _ r2 hr21)).trans y6
              have HI := Lib.hid hI
              have HY := Lib.hid (show W.drew.cell? ⟨r1, s, none⟩ = some (.int .i64 (roomP h a b M G false (nn pre) k s)) ∧ W.drew.frozen? ⟨r1, s, none⟩ = false from ⟨y3, y5⟩)
              have HY' := Lib.hid (And.intro y4' y6')
              clear hI hcl y4' y6' y3 y4 y5 y6
              refine region_perm (C := fun W' => ∃ i, W' = fI i) [0, 1, 2, 3, 4, 5, 6, 7, 8, 9, 10, 11, 12, 13, 14, 15, 16] [17, 18, 19] hmx (fun _ => trivial) (by kernel_rfl) (by kernel_rfl) rfl (by kernel_rfl) ((HI.out _).2 (.inl rfl)) ?_
              simp only [pickO_cons, pickO_nil, Option.elim_some, List.getElem?_toArray, List.getElem?_cons_zero, List.getElem?_cons_succ]
              repeat (first | go_big_quiet_skip | (go_big_quiet_want; go_big_quiet_op; go_big_quiet_on))
              refine wpQuiet_nil ?_
              simp only [tailC, opC, List.getElem?_toArray, List.getElem?_cons_zero, List.getElem?_cons_succ]
              rw [if_pos (by rfl)]
              refine ⟨undef, _, .inr ⟨exec_store_int rfl rfl rfl HY.out.1 HY.out.2, rfl⟩, (HI.out _).2 (.inr (.inl rfl)), ?_⟩
              rw [if_pos (by rfl)]
              refine ⟨_, _, .inl (exec_index_int rfl rfl rfl hkn), (HI.out _).2 (.inr (.inl rfl)), ?_⟩
              rw [if_pos (by rfl)]
              refine ⟨undef, _, .inr ⟨exec_store_int rfl rfl rfl HY'.out.1 HY'.out.2, rfl⟩, (HI.out _).2 (.inr (.inr rfl)), ?_⟩
              gi_wp2
              refine ⟨HKO.out.from _, HBE.out, HEND.out⟩
          · as_aux_lemma =>
              have HEND : Hid (ShiftI w h a b n G M true p1 p2 p3 p4 p5 w9.heap.size (.slice (some ⟨b1, o1, none⟩) h c) (.slice (some ⟨mb, mo, none⟩) h d) (.slice (some ⟨g, 0, none⟩) n cc) Wb.heap.size w9.heap.size g vs (nn (pre ++ [⟨(k, l), hk, hl⟩])) ((W.setCell ⟨r1, s, none⟩ (.int .i64 x)).setCell ⟨r2, k, none⟩ (.int .i64 3168)).drew) := Lib.hid (by
                have h2 := htwo x 3168
                have e := roomP_set (b := b) (G := G) (gr := true) (pre := nn pre) hk hmov
                rw [HXX.out, HS'.out] at e
                simp at e
                rw [e, ← nn_snoc pre ⟨(k, l), hk, hl⟩] at h2
                exact ⟨(HS.out.box.map fun z t cs hz hzz => ((hz.far (p := ⟨r1, s, none⟩) (by simp; omega) _).far (p := ⟨r2, k, none⟩) (by simp; omega) _).drew), h2.below (below_drewN (Below.refl _ _) 1), ((HS.out.bel.setCell (p := ⟨r1, s, none⟩) (by simp; omega) _).setCell (p := ⟨r2, k, none⟩) (by simp; omega) _).drew⟩)
              have HKO : Hid (KeepsOthers W ((W.setCell ⟨r1, s, none⟩ (.int .i64 x)).setCell ⟨r2, k, none⟩ (.int .i64 3168)).drew) := Lib.hid ((KeepsOthers.setCell _ _ _).trans ((KeepsOthers.setCell _ _ _).trans (KeepsOthers.drew _)))
              have HBE : Hid (Below w.heap.size W ((W.setCell ⟨r1, s, none⟩ (.int .i64 x)).setCell ⟨r2, k, none⟩ (.int .i64 3168)).drew) := Lib.hid ((((Below.refl _ _).setCell (p := ⟨r1, s, none⟩) (by simp; omega) _).setCell (p := ⟨r2, k, none⟩) (by simp; omega) _).drew)
              clear htwo
              gi_wp2
              obtain ⟨I, fI, hne, hI⟩ : ∃ (I : Type) (fI : I → World), Nonempty I ∧ ∀ W', (∃ i, W' = fI i) ↔ (W' = W.drew ∨ W' = W.drew.setCell ⟨r1, s, none⟩ (.int .i64 x) ∨ W' = (W.drew.setCell ⟨r1, s, none⟩ (.int .i64 x)).setCell ⟨r2, k, none⟩ (.int .i64 3168)) :=
                ⟨{ W' // W' = W.drew ∨ W' = W.drew.setCell ⟨r1, s, none⟩ (.int .i64 x) ∨ W' = (W.drew.setCell ⟨r1, s, none⟩ (.int .i64 x)).setCell ⟨r2, k, none⟩ (.int .i64 3168) }, Subtype.val, ⟨⟨W.drew, .inl rfl⟩⟩, fun W' => ⟨fun ⟨i, e⟩ => e ▸ i.2, fun h => ⟨⟨W', h⟩, rfl⟩⟩⟩
              have hcl : ∀ (p : Addr) v, p.block ≠ r1 → p.block ≠ r2 → W.cell? p = some v → ∀ i, (fI i).cell? p = some v := fun p v n1 n2 hp i => by
                have hb1 : ∀ (V : World) (q : Addr) (u : Value), q.block ≠ p.block → (V.setCell q u).cell? p = V.cell? p := fun V q u hq => World.cell?_of_block (Below.heap_setCell V q u p.block (fun e => hq e.symm))
                rcases (hI (fI i)).1 ⟨i, rfl⟩ with e | e | e
                · rw [e]; exact hp
                · rw [e, hb1 _ _ _ (fun e => n1 e.symm)]; exact hp
                · rw [e, hb1 _ _ _ (fun e => n2 e.symm), hb1 _ _ _ (fun e => n1 e.symm)]; exact hp
              have hi6 := hcl ⟨w9.heap.size, 0, none⟩ _ (by simp; omega) (by simp; omega) e6
              have hi5 := hcl ⟨p5, 0, none⟩ _ (by simp; omega) (by simp; omega) e5
              have hiy1 := hcl ⟨g, k, none⟩ _ (fun e => hr1g e.symm) (fun e => hr2g e.symm) y1
              have hiy2 := hcl ⟨g, s, none⟩ _ (fun e => hr1g e.symm) (fun e => hr2g e.symm) y2
              have y4' : (W.drew.setCell ⟨r1, s, none⟩ (.int .i64 x)).cell? ⟨r2, k, none⟩ = some (.int .i64 (roomP h a b M G true (nn pre) s k)) := (World.cell?_of_block (w := W) (a := ⟨r2, k, none⟩) (Below.heap_setCell W.drew ⟨r1, s, none⟩ _ r2 hr21)).trans y4
              have y6' : (W.drew.setCell ⟨r1, s, none⟩ (.int .i64 x)).frozen? ⟨r2, k, none⟩ = false := (World.frozen?_of_block (w := W) (a := ⟨r2, k, none⟩) (Below.heap_setCell W.drew ⟨r1, s, none⟩ _ r2 hr21)).trans y6
              have HI := Lib.hid hI
              have HY := Lib.hid (show W.drew.cell? ⟨r1, s, none⟩ = some (.int .i64 (roomP h a b M G true (nn pre) k s)) ∧ W.drew.frozen? ⟨r1, s, none⟩ = false from ⟨y3, y5⟩)
              have HY' := Lib.hid (And.intro y4' y6')
              clear hI hcl y4' y6' y3 y4 y5 y6
              refine region_perm (C := fun W' => ∃ i, W' = fI i) [0, 1, 2, 3, 4, 5, 6, 7, 8, 9, 10, 11, 12, 13, 14, 15, 16] [17, 18, 19] hmx (fun _ => trivial) (by kernel_rfl) (by kernel_rfl) rfl (by kernel_rfl) ((HI.out _).2 (.inl rfl)) ?_
              simp only [pickO_cons, pickO_nil, Option.elim_some, List.getElem?_toArray, List.getElem?_cons_zero, List.getElem?_cons_succ]
              repeat (first | go_big_quiet_skip | (go_big_quiet_want; go_big_quiet_op; go_big_quiet_on))
              refine wpQuiet_nil ?_
              simp only [tailC, opC, List.getElem?_toArray, List.getElem?_cons_zero, List.getElem?_cons_succ]
              rw [if_pos (by rfl)]
              refine ⟨undef, _, .inr ⟨exec_store_int rfl rfl rfl HY.out.1 HY.out.2, rfl⟩, (HI.out _).2 (.inr (.inl rfl)), ?_⟩
              rw [if_pos (by rfl)]
              refine ⟨_, _, .inl (exec_index_int rfl rfl rfl hkn), (HI.out _).2 (.inr (.inl rfl)), ?_⟩
              rw [if_pos (by rfl)]
              refine ⟨undef, _, .inr ⟨exec_store_int rfl rfl rfl HY'.out.1 HY'.out.2, rfl⟩, (HI.out _).2 (.inr (.inr rfl)), ?_⟩
              gi_wp2
              refine ⟨HKO.out.from _, HBE.out, HEND.out⟩
  case done => as_aux_lemma =>
    rintro D ys W hD hS hs hK
    have hown := hs.own
    rw [hS] at hown
    have hnn := HNE.out
    rw [hnn, roomP_all, ← hnn] at hown
    have hbel := hs.bel
    have hWs := hown.hin
    have hKl : D < W.heap.size := (Array.getElem?_eq_some_iff.1 hK).1
    have HBX := Lib.hid hs.box
    have HBEL := Lib.hid hbel
    have HK := Lib.hid hK
    have HOW := Lib.hid hown
    have HNN := Lib.hid hnn
    clear hs hown hbel hS hK hnn
    gi_wp2
    refine wpIn_wide.2 ?_
    have HM0 : Hid (MainI h wd a b n G M gr Wb.heap.size w9.heap.size g vs W 0 W) := Lib.hid ⟨G, fit_self fun i j => gd.lo i j, by cases gr <;> simp, ⟨G, fit_self fun i j => gd.lo i j, gd.lo a b, by have := gd.lo a b; omega⟩, HOW.out, Turns.refl _ _ _⟩
    go_loopw [18] (fun v wr => ∃ f : Int, v = .int .i64 f ∧ 0 ≤ f ∧ f ≤ 2000 ∧ Hid (MainI h wd a b n G M gr Wb.heap.size w9.heap.size g vs W f wr)) (fun v _ => (3000 - intOf v).toNat)
    case atStart => exact ⟨0, rfl, by omega, by omega, HM0⟩
    case round => as_aux_lemma =>
      clear HM0
      obtain ⟨f, rfl, hf0, hf1, HMI⟩ := hrel
      obtain ⟨wo, rfl⟩ : ∃ wo : World, wo = wr := ⟨_, rfl⟩
      obtain ⟨X, hX, hXf, hZ, hOX, hTX⟩ := HMI.out
      have hbx := HBX.out.turns (W' := wo) hTX (by omega) (by omega)
      obtain ⟨e0, e1, e2, e3, e4, e5, e6⟩ := hbx.cells
      have an : (a : Int) < (n : Int) := by have := HNN.out; omega
      have hb' := hb
      obtain ⟨s, hs'⟩ : ∃ s, h + b = s := ⟨_, rfl⟩
      have hsI : (h : Int) + (b : Int) = (s : Int) := by omega
      have hsn : s < n := by have := HNN.out; omega
      have hrc := reach_any (some ⟨g, 0, none⟩) cc n a (roomX h a b M G gr X) wo hOX.tab hn8 (by have := HNN.out; omega)
      have HRC := Lib.hid hrc
      have HOX := Lib.hid hOX
      have HTX := Lib.hid hTX
      have HXX := Lib.hid hX
      have HXF := Lib.hid hXf
      have HZ := Lib.hid hZ
      have HSE := Lib.hid hs'
      have HBO := Lib.hid hbx
      have hwo := hTX.size
      clear hrc hOX hTX hX hXf hZ hs' hbx HMI
      go_wp2_with fail
      refine HRC.out.mono ?_
      rintro e w1 ⟨Ap, cp, q, kk, par, rfl, hpr, hB, hkk, hb1⟩
      clear HRC
      have hbf : Bfs (h + wd) a (Edge h wd a b M X gr) q kk 0 par := by
        rw [HNN.out] at hB
        exact hB.congr fun u v hu hv => room_edge ha hb h4 w4 hF HXX.out hu hv
      obtain ⟨pb, rfl, hpb1, hpb2, cp0, -, -⟩ := own_mk hpr hsn
      obtain ⟨p, hp⟩ : ∃ p, par s = p := ⟨_, rfl⟩
      rw [hp] at cp0
      have hs1 := hb1.size
      have HT1 := Lib.hid (HTX.out.trans (turns_of_below (lo := Wb.heap.size) (hi := w9.heap.size) hb1))
      have HO1 := Lib.hid (HOX.out.below hb1)
      have hbx1 := HBX.out.turns (W' := w1) HT1.out (by omega) (by omega)
      obtain ⟨e0', e1', e2', e3', e4', e5', e6'⟩ := hbx1.cells
      have HPR := Lib.hid hpr
      have HBF := Lib.hid hbf
      have HPP := Lib.hid hp
      have s1 : (s : Int) < (n : Int) := by omega
      clear hpr hB hp hb1 hbx1 HOX HTX hbf e0 e1 e2 e3 e4 e5 e6
      by_cases hp0 : p < 0
      · as_aux_lemma =>
          have d0 : decide (p < 0) = true := decide_eq_true hp0
          have hno : par (h + b) < 0 := by rw [HSE.out, HPP.out]; exact hp0
          have hKt : w1.heap[D]? = some (.deferred (some [])) := (HT1.out.block D hKl (.inr (by omega))).trans HK.out
          go_wp2_with fail
          refine ⟨by simp, .inl ⟨_, _, rfl, run_takeDeferred hKt, ?_⟩⟩
          refine ⟨_, by simp [results, Try.f21, go_sem]; rfl, ?_⟩
          have hB1 : Below w.heap.size w w1 := HBEL.out.trans (HT1.out.below (by omega) (by omega))
          have hBe : Below w.heap.size w (w1.putObj D (.deferred none)) := hB1.trans (belowK_b (w := w) (Nat.le_refl _) _ D _ _ (by omega) hKt rfl rfl)
          have hxf := HXF.out
          refine ⟨f, rfl, hf0, hf1, fun hg => ?_, fun hg => ?_, hBe⟩
          · subst hg
            simp only [if_true] at hxf
            have hbf := HBF.out
            exact ⟨⟨X, HXX.out, by have := gd.lo a b; omega, hxf⟩, fun Y hY => by rw [← hxf]; exact high_end ha hb hbf hkk hno HXX.out hY⟩
          · subst hg
            simp only [Bool.false_eq_true, if_false] at hxf
            have hbf := HBF.out
            obtain ⟨Z, z1, z2, z3⟩ := HZ.out
            refine ⟨⟨Z, z1, z2, by rw [z3, hxf]; congr 1⟩, fun Y hY hy0 => ?_⟩
            have := low_end ha hb hbf hkk hno HXX.out hY
            omega
      · as_aux_lemma =>
          have d0 : decide (p < 0) = false := decide_eq_false hp0
          have hway : ∃ L, Way (h + wd) a (Edge h wd a b M X gr) par (h + b) L := HBF.out.way (by omega) (by rw [HSE.out, HPP.out]; omega)
          obtain ⟨L, hL⟩ := hway
          have HL := Lib.hid hL
          clear hL
          have HQ0 : Hid (Qu w1 w1) := Lib.hid (Qu.refl _)
          go_wp2_with fail
          go_loopw [20, 21] (fun v i wr => ∃ (t p : Nat) (δ : Int), v = .int .i64 δ ∧ i = .int .i64 p ∧ 1 ≤ δ ∧ δ ≤ 3168 ∧ Hid (L[t]? = some p) ∧ Hid (∀ s v u, s < t → L[s]? = some v → L[s + 1]? = some u → δ ≤ roomX h a b M G gr X u v) ∧ Hid (Qu w1 wr)) (fun _ i _ => L.length - L.idxOf (intOf i).toNat)
          case atStart => exact ⟨0, s, 3168, rfl, rfl, by omega, by omega, Lib.hid (by rw [HL.out.first, HSE.out]), Lib.hid fun s v u hs => absurd hs (by omega), HQ0⟩
          case round => as_aux_lemma =>
            clear HQ0
            obtain ⟨t, p, δ, rfl, rfl, hδ1, hδ2, HPt, HCAP, HQ⟩ := hrel
            obtain ⟨wq, rfl⟩ : ∃ wq : World, wq = wr := ⟨_, rfl⟩
            have hqs := HQ.out.size
            have hbq := HBX.out.turns (W' := wq) (HT1.out.trans (turns_of_below HQ.out.below)) (by omega) (by omega)
            obtain ⟨e0, e1, e2, e3, e4, e5, e6⟩ := hbq.cells
            have HPRq := Lib.hid (own_below HPR.out HQ.out.below)
            have HOq := Lib.hid (HO1.out.below HQ.out.below)
            clear hbq e0' e1' e2' e3' e4' e5' e6' cp0
            by_cases hpa : p = a
            · as_aux_lemma =>
                have f1 : ((p : Int) != (a : Int)) = false := by simp; omega
                have HPA := Lib.hid hpa
                clear hpa
                have htL : t = L.length - 1 := by
                  have h1 := HL.out.last
                  have hpos := (List.getElem?_eq_some_iff.1 HPt.out).1
                  have h2 := (List.getElem?_inj (j := L.length - 1) hpos HL.out.nd).1 (by rw [HPt.out, HPA.out]; exact h1.symm)
                  exact h2
                have hall : ∀ s v u, L[s]? = some v → L[s + 1]? = some u → δ ≤ roomX h a b M G gr X u v := fun s v u e1 e2 => HCAP.out s v u (by
                  have := (List.getElem?_eq_some_iff.1 e2).1
                  omega) e1 e2
                have HALL := Lib.hid hall
                obtain ⟨ε, hε⟩ : ∃ ε : Int, ε = if gr then δ else -δ := ⟨_, rfl⟩
                have HEP := Lib.hid hε
                have HOW0 := Lib.hid (OnWay.start (d := ε) ha hb hM HXX.out HL.out)
                have HO0 : Hid (OwnT IntV 3 Wb.heap.size w9.heap.size wq g vs (mkT n n (roomX h a b M G gr (up2 X a b (X a b + ε))))) := Lib.hid (by rw [roomX_own]; exact HOq.out)
                have HTq := Lib.hid (HT1.out.trans (turns_of_below (lo := Wb.heap.size) (hi := w9.heap.size) HQ.out.below))
                have HTr : Hid (Turns Wb.heap.size w9.heap.size wq wq) := Lib.hid (Turns.refl _ _ _)
                clear hall hε htL HCAP
                go_wp2_with fail
                go_loopw [22] (fun i wr => ∃ (t2 p : Nat) (Z : Nat → Nat → Int), i = .int .i64 p ∧ Hid (L[t2]? = some p) ∧ Hid (OnWay h wd G M a b L X ε t2 Z) ∧ Hid (OwnT IntV 3 Wb.heap.size w9.heap.size wr g vs (mkT n n (roomX h a b M G gr Z))) ∧ Hid (Turns Wb.heap.size w9.heap.size wq wr)) (fun i _ => L.length - L.idxOf (intOf i).toNat)
                case atStart => exact ⟨0, s, _, rfl, Lib.hid (by rw [HL.out.first, HSE.out]), HOW0, HO0, HTr⟩
                case round => as_aux_lemma =>
                  clear HOW0 HO0 HTr e0 e1 e2 e3 e4 e5 e6
                  obtain ⟨t2, p, Z, rfl, HP2, HOW2, HOZ, HTz⟩ := hrel
                  obtain ⟨wz, rfl⟩ : ∃ wz : World, wz = wr := ⟨_, rfl⟩
                  have hqz := HTz.out.size
                  have hbz := HBX.out.turns (W' := wz) (HTq.out.trans HTz.out) (by omega) (by omega)
                  obtain ⟨e0, e1, e2, e3, e4, e5, e6⟩ := hbz.cells
                  have HPRz := Lib.hid (own_keep HPRq.out fun b hb => by
                    have h1 := HPRq.out.lt b hb
                    exact HTz.out.block b h1.2 (.inr (by omega)))
                  clear hbz
                  by_cases hpa : p = a
                  · as_aux_lemma =>
                      have f1 : ((p : Int) != (a : Int)) = false := by simp; omega
                      have hdone := HOW2.out.done ha (by rw [HP2.out, hpa])
                      have hZab := HOW2.out.ab
                      have hown := fit_own ha hb h4 w4 hF hdone
                      have hxf := HXF.out
                      have hε := HEP.out
                      have hgab := hF a b
                      have hfd : f + δ ≤ 2000 := by cases gr <;> simp at hε hxf <;> omega
                      have HM2 : Hid (MainI h wd a b n G M gr Wb.heap.size w9.heap.size g vs W (f + δ) wz) := Lib.hid (by
                        refine ⟨Z, hdone, ?_, ?_, HOZ.out, HTq.out.trans HTz.out⟩
                        · rw [hZab, hxf]; cases gr <;> simp at hε ⊢ <;> omega
                        · cases hgr : gr
                          · rw [hgr] at hε hxf
                            simp at hε hxf
                            refine low_next (d := δ) ha hb hM HXX.out (by rw [← hgr]; exact HL.out) (by omega) (fun t k l e1 e2 hk => ?_) hdone (by rw [hZab, hε]; omega) HZ.out
                            have hc := HALL.out t k (h + l) e1 e2
                            have hE := (HL.out.step t _ _ e1 e2).2.2
                            have hedge := Edge.row hk hE
                            rw [hgr, roomX_bwd hk ⟨hedge.2.1, hedge.2.2.1⟩] at hc
                            simpa using hc
                          · rw [hgr] at hε hxf
                            simp at hε hxf
                            exact ⟨Z, hdone, by omega, by omega⟩)
                      clear hpa hdone hZab hown hxf hε hgab
                      go_wp2_with fail
                      go_roundw
                      case rel => exact ⟨f + δ, rfl, by omega, hfd, HM2⟩
                      case measure => simp [intOf]; omega
                  · as_aux_lemma =>
                      have f1 : ((p : Int) != (a : Int)) = true := by simp; omega
                      have htl := (List.getElem?_eq_some_iff.1 HP2.out).1
                      have htn : t2 + 1 < L.length := by
                        have hlast := HL.out.last
                        have : t2 ≠ L.length - 1 := fun e => by
                          have h1 := HP2.out
                          rw [e, hlast] at h1
                          injection h1 with h1
                          exact hpa h1.symm
                        omega
                      obtain ⟨u, hu1⟩ : ∃ u, L[t2 + 1]? = some u := ⟨_, List.getElem?_eq_getElem htn⟩
                      have hstep := HL.out.step t2 p u HP2.out hu1
                      have hpn : p < n := by have := HL.out.lt p (List.mem_of_getElem? HP2.out); have := HNN.out; omega
                      have hun : u < n := by have := HL.out.lt u (List.mem_of_getElem? hu1); have := HNN.out; omega
                      have hup : u ≠ p := by rcases Edge.cases hstep.2.2 with ⟨l, h1, h2, h3⟩ | ⟨l, h1, h2, h3⟩ <;> omega
                      obtain ⟨pb', hpe, -, hpb3, cpp, -, -⟩ := own_mk HPRz.out hpn
                      obtain rfl : pb = pb' := by injection hpe with hpe; injection hpe
                      rw [hstep.2.1] at cpp
                      obtain ⟨b1, c1, b2, c2, hbr, hb12, hb1g, hb2g, y1, y2, y3, y4, y5, y6, htwo⟩ := HOZ.out.two hun hpn hup
                      obtain ⟨r1, hr1⟩ : ∃ r, roomX h a b M G gr Z u p = r := ⟨_, rfl⟩
                      obtain ⟨r2, hr2⟩ : ∃ r, roomX h a b M G gr Z p u = r := ⟨_, rfl⟩
                      rw [hr1] at y3
                      rw [hr2] at y4
                      have hnext : ∃ Z', OnWay h wd G M a b L X ε (t2 + 1) Z' ∧ up2 (up2 (roomX h a b M G gr Z) u p (r1 - δ)) p u (r2 + δ) = roomX h a b M G gr Z' ∧ (-20000 ≤ r1 ∧ r1 ≤ 20000) ∧ (-20000 ≤ r2 ∧ r2 ≤ 20000) := by
                        have hcs2 : (∃ l, u < h ∧ p = h + l ∧ l < wd) ∨ (∃ l, p < h ∧ u = h + l ∧ l < wd) := Edge.cases hstep.2.2
                        rcases hcs2 with hcase | hcase
                        · obtain ⟨l, hk, hpl, hl⟩ := hcase
                          have hE := hstep.2.2
                          rw [hpl] at hE
                          have hedge := Edge.col hk hE
                          have hmov : Mov a b M u l := ⟨hedge.2.1, hedge.2.2.1⟩
                          have hx0 := HXX.out.nn u l hk hl hedge.2.2.1
                          have hx1 := fit_le ha hb h4 w4 hF HXX.out hk hl hedge.2.2.1
                          have hg0 := hF u l
                          have hbd := HOW2.out.bd u l
                          have hcap := HALL.out t2 p u HP2.out hu1
                          have hε := HEP.out
                          have e1 : roomX h a b M G gr Z u p = if gr then Z u l else 3168 + G u l - Z u l := by rw [hpl]; exact roomX_fwd hk hmov
                          have e2 : roomX h a b M G gr Z p u = if gr then 3168 + G u l - Z u l else Z u l := by rw [hpl]; exact roomX_bwd hk hmov
                          have e3 : roomX h a b M G gr X u p = if gr then X u l else 3168 + G u l - X u l := by rw [hpl]; exact roomX_fwd hk hmov
                          rw [e3] at hcap
                          have hcond : 0 ≤ X u l - ε := by cases gr <;> simp at hcap hε <;> omega
                          have hW2 := HOW2.out.toRow HL.out (by rw [← hpl]; exact HP2.out) (hu1) hk hcond
                          have hroom := roomX_row (X := Z) (G := G) (gr := gr) hk hmov (r1 - δ) (r2 + δ) (Z u l - ε) (by
                            rw [← hr1, e1]; cases gr <;> simp at hε ⊢ <;> omega) (by
                            rw [← hr2, e2]; cases gr <;> simp at hε ⊢ <;> omega)
                          have hrr : (-20000 ≤ r1 ∧ r1 ≤ 20000) ∧ (-20000 ≤ r2 ∧ r2 ≤ 20000) := by
                            rw [← hr1, ← hr2, e1, e2]
                            cases gr <;> simp at hε ⊢ <;> omega
                          refine ⟨_, hW2, ?_, hrr⟩
                          rw [← hroom, hpl]
                        · obtain ⟨l, hk, hpl, hl⟩ := hcase
                          have hE := hstep.2.2
                          rw [hpl] at hE
                          have hedge := Edge.row hk hE
                          have hmov : Mov a b M p l := ⟨hedge.2.1, hedge.2.2.1⟩
                          have hx0 := HXX.out.nn p l hk hl hedge.2.2.1
                          have hx1 := fit_le ha hb h4 w4 hF HXX.out hk hl hedge.2.2.1
                          have hg0 := hF p l
                          have hbd := HOW2.out.bd p l
                          have hcap := HALL.out t2 p u HP2.out hu1
                          have hε := HEP.out
                          have e1 : roomX h a b M G gr Z u p = if gr then 3168 + G p l - Z p l else Z p l := by rw [hpl]; exact roomX_bwd hk hmov
                          have e2 : roomX h a b M G gr Z p u = if gr then Z p l else 3168 + G p l - Z p l := by rw [hpl]; exact roomX_fwd hk hmov
                          have e3 : roomX h a b M G gr X u p = if gr then 3168 + G p l - X p l else X p l := by rw [hpl]; exact roomX_bwd hk hmov
                          rw [e3] at hcap
                          have hcond : 0 ≤ X p l + ε := by cases gr <;> simp at hcap hε <;> omega
                          have hW2 := HOW2.out.toCol HL.out (HP2.out) (by rw [← hpl]; exact hu1) hk hcond
                          have hroom := roomX_col (X := Z) (G := G) (gr := gr) hk hmov (r2 + δ) (r1 - δ) (Z p l + ε) (by
                            rw [← hr2, e2]; cases gr <;> simp at hε ⊢ <;> omega) (by
                            rw [← hr1, e1]; cases gr <;> simp at hε ⊢ <;> omega)
                          have hrr : (-20000 ≤ r1 ∧ r1 ≤ 20000) ∧ (-20000 ≤ r2 ∧ r2 ≤ 20000) := by
                            rw [← hr1, ← hr2, e1, e2]
                            cases gr <;> simp at hε ⊢ <;> omega
                          refine ⟨_, hW2, ?_, hrr⟩
                          rw [← hroom, hpl]
                      obtain ⟨Z', hW2, hroom, hrr1, hrr2⟩ := hnext
                      have htw := htwo (r1 - δ) (r2 + δ)
                      rw [hroom] at htw
                      obtain ⟨Wx, hWx⟩ : ∃ Wx : World, Wx = (wz.setCell ⟨b1, p, none⟩ (.int .i64 (r1 - δ))).drew := ⟨_, rfl⟩
                      have HOY : Hid (OwnT IntV 3 Wb.heap.size w9.heap.size (Wx.setCell ⟨b2, u, none⟩ (.int .i64 (r2 + δ))).drew g vs (mkT n n (roomX h a b M G gr Z'))) := Lib.hid (by
                        rw [hWx]
                        exact htw.keep (Nat.le_refl _) (fun i _ _ => rfl))
                      have HTY : Hid (Turns Wb.heap.size w9.heap.size wq (Wx.setCell ⟨b2, u, none⟩ (.int .i64 (r2 + δ))).drew) := Lib.hid (by
                        rw [hWx]
                        exact (((HTz.out.setCell (p := ⟨b1, p, none⟩) (by simp; omega) (by simp; omega) _).drewN 1).setCell (p := ⟨b2, u, none⟩) (by simp; omega) (by simp; omega) _).drewN 1)
                      have hfx : ∀ (q : Addr) v, q.block ≠ b1 → wz.cell? q = some v → Wx.cell? q = some v := fun q v hq hc => by
                        rw [hWx]
                        exact (World.cell?_of_block (w := wz) (Below.heap_setCell wz ⟨b1, p, none⟩ _ q.block hq)).trans hc
                      have x6 := hfx ⟨w9.heap.size, 0, none⟩ _ (by simp; omega) e6
                      have xp := hfx ⟨pb, p, none⟩ _ (by simp; omega) cpp
                      have xy := hfx ⟨g, p, none⟩ _ (fun e => hb1g e.symm) y2
                      have x4 := hfx ⟨b2, u, none⟩ _ (fun e => hb12 e.symm) y4
                      have x6' : Wx.frozen? ⟨b2, u, none⟩ = false := by
                        rw [hWx]
                        exact (World.frozen?_of_block (w := wz) (a := ⟨b2, u, none⟩) (Below.heap_setCell wz ⟨b1, p, none⟩ _ b2 (fun e => hb12 e.symm))).trans y6
                      have hrr1a := hrr1.1
                      have hrr1b := hrr1.2
                      have hrr2a := hrr2.1
                      have hrr2b := hrr2.2
                      have p1' : (p : Int) < (n : Int) := by omega
                      have u1' : (u : Int) < (n : Int) := by omega
                      have hmeas : L.length - L.idxOf u < L.length - L.idxOf p := by
                        rw [idx_at HL.out.nd HP2.out, idx_at HL.out.nd hu1]; omega
                      have HU1 := Lib.hid hu1
                      have HW2 := Lib.hid hW2
                      have HWx := Lib.hid hWx
                      clear hpe hu1 hstep hr1 hr2 htw htwo hroom hfx y4 y6 hW2 hrr1 hrr2 hWx hup
                      go_wp2_with fail
                      refine tail_Q 13 hmx (by kernel_rfl) ?_
                      simp only [List.take_succ_cons, List.take_zero, List.drop_succ_cons, List.drop_zero]
                      repeat (first | go_big_quiet_skip | (go_big_quiet_want; go_big_quiet_op; go_big_quiet_on))
                      refine wpQuiet_nil ?_
                      go_wp2_with fail
                      rw [← HWx.out]
                      refine tail_Q 13 hmx (by kernel_rfl) ?_
                      simp only [List.take_succ_cons, List.take_zero, List.drop_succ_cons, List.drop_zero]
                      repeat (first | go_big_quiet_skip | (go_big_quiet_want; go_big_quiet_op; go_big_quiet_on))
                      refine wpQuiet_nil ?_
                      go_wp2_with fail
                      go_roundw
                      case rel => exact ⟨t2 + 1, u, Z', rfl, HU1, HW2, HOY, HTY⟩
                      case measure => simpa [intOf] using hmeas
            · as_aux_lemma =>
                have f1 : ((p : Int) != (a : Int)) = true := by simp; omega
                have htl := (List.getElem?_eq_some_iff.1 HPt.out).1
                have htn : t + 1 < L.length := by
                  have hlast := HL.out.last
                  have : t ≠ L.length - 1 := fun e => by
                    have h1 := HPt.out
                    rw [e, hlast] at h1
                    injection h1 with h1
                    exact hpa h1.symm
                  omega
                obtain ⟨u, hu1⟩ : ∃ u, L[t + 1]? = some u := ⟨_, List.getElem?_eq_getElem htn⟩
                have hstep := HL.out.step t p u HPt.out hu1
                have hpn : p < n := by have := HL.out.lt p (List.mem_of_getElem? HPt.out); have := HNN.out; omega
                have hun : u < n := by have := HL.out.lt u (List.mem_of_getElem? hu1); have := HNN.out; omega
                obtain ⟨pb', hpe, -, hpb3, cpp, -, -⟩ := own_mk HPRq.out hpn
                obtain rfl : pb = pb' := by injection hpe with hpe; injection hpe
                rw [hstep.2.1] at cpp
                obtain ⟨bu, cu, -, -, -, -, k1, k2, -, -, -⟩ := HOq.out.cell_ hun hpn
                have hroom := (room_edge (gr := gr) ha hb h4 w4 hF HXX.out (by have := HNN.out; omega) (by have := HNN.out; omega)).2 hstep.2.2
                obtain ⟨r, hr⟩ : ∃ r, roomX h a b M G gr X u p = r := ⟨_, rfl⟩
                rw [hr] at k2 hroom
                have hmeas : L.length - L.idxOf u < L.length - L.idxOf p := by
                  rw [idx_at HL.out.nd HPt.out, idx_at HL.out.nd hu1]; omega
                have HU1 := Lib.hid hu1
                have HR := Lib.hid hr
                have p1' : (p : Int) < (n : Int) := by omega
                have u1' : (u : Int) < (n : Int) := by omega
                have HQ2 : ∀ m, Hid (Qu w1 (wq.drewN m)) := fun m => Lib.hid (HQ.out.drewN m)
                have hcap2 : ∀ δ' : Int, δ' ≤ δ → δ' ≤ r → ∀ s v u', s < t + 1 → L[s]? = some v → L[s + 1]? = some u' → δ' ≤ roomX h a b M G gr X u' v := fun δ' h1 h2 s v u' hs e1 e2 => by
                  by_cases hst : s = t
                  · subst hst
                    rw [HPt.out] at e1
                    rw [HU1.out] at e2
                    injection e1 with e1
                    injection e2 with e2
                    subst e1 e2
                    rw [HR.out]; exact h2
                  · exact Int.le_trans h1 (HCAP.out s v u' (by omega) e1 e2)
                have HCAP2 := Lib.hid hcap2
                clear hpe hu1 hr hstep hcap2
                by_cases hrd : r < δ
                · as_aux_lemma =>
                    have HCAP3 := Lib.hid (HCAP2.out r (by omega) (Int.le_refl _))
                    go_wp2_with fail
                    go_quiet (fail)
                    go_wp2_with fail
                    go_roundw
                    case rel => exact ⟨t + 1, u, r, rfl, rfl, by omega, by omega, HU1, HCAP3, HQ2 _⟩
                    case measure => simpa [intOf] using hmeas
                · as_aux_lemma =>
                    have HCAP3 := Lib.hid (HCAP2.out δ (Int.le_refl _) (by omega))
                    go_wp2_with fail
                    go_quiet (fail)
                    go_wp2_with fail
                    go_roundw
                    case rel => exact ⟨t + 1, u, δ, rfl, rfl, by omega, by omega, HU1, HCAP3, HQ2 _⟩
                    case measure => simpa [intOf] using hmeas
  case stop =>
    rintro D c pre W _ _ h _
    exact h.elim
end Go.Proofs.Ythknlonelbfpaaa
