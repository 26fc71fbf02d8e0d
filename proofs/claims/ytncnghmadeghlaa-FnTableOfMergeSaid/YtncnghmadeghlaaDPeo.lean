/- l91People: a list of persons is drawn. -/
import Derived.Test.YtncnghmadeghlaaDPer
import Derived.Deep.RegionWith
namespace Go.Proofs.Ytncnghmadeghlaa
open Go.RowKit
set_option linter.unusedVariables false
/-- what a draw of persons leaves -/
def DrawnPeo (w : World) (B g p : Nat) (e : Ending) (w' : World) : Prop :=
  ∃ A c ps p', e = .returned (.slice A (ps : List Per).length c) ∧ ps.length ≤ 12 ∧ OwnP w' B A ps.length c ps ∧ Rd w' B g p' ∧ p' ≤ p + 200 ∧ w.grownBy w' (some g)
theorem OwnP.grown_ {w w' : World} {lo n c g : Nat} {A : Option Addr} {ps : List Per} (h : OwnP w lo A n c ps) (hg : w.grownBy w' (some g)) (hl : g < lo) : OwnP w' lo A n c ps :=
  h.keep fun i h1 h2 => hg.block i h2 (by intro e; injection e with e; omega)
theorem OwnP.keep1 {w w' : World} {lo n c : Nat} {b : Nat} {ps : List Per} (h : OwnP w lo (some ⟨b, 0, none⟩) n c ps) (hk : w'.heap[b]? = w.heap[b]?) : OwnP w' lo (some ⟨b, 0, none⟩) n c ps :=
  ⟨own_keep4 h.1 fun x hx => by
    have e : b = x := by injection hx
    rw [← e]; exact hk, h.2⟩
theorem OwnP.lower {w : World} {lo lo' n c : Nat} {A : Option Addr} {ps : List Per} (h : OwnP w lo A n c ps) (hl : lo' ≤ lo) : OwnP w lo' A n c ps := by
  refine ⟨⟨h.1.1, h.1.2.imp id ?_⟩, h.2⟩
  rintro ⟨b, cap, cur, h1, h2, h3⟩
  exact ⟨b, cap, cur, h1, by omega, h3⟩
def Pays (ps : List Per) : Prop := ∀ q ∈ ps, 0 ≤ q.pay ∧ q.pay ≤ 999
theorem pays_snoc {ps : List Per} {q : Per} (h : Pays ps) (hq : 0 ≤ q.pay ∧ q.pay ≤ 999) : Pays (ps ++ [q]) := by
  intro x hx
  rcases List.mem_append.1 hx with hx | hx
  · exact h x hx
  · simp at hx; subst hx; exact hq
/-- between two persons -/
structure PeoR (w : World) (lo B g p k : Nat) (A : Option Addr) (c : Nat) (ps : List Per) (r : Nat) (W : World) : Prop where
  own : OwnP W lo A k c ps
  pay : Pays ps
  rd : Rd W B g r
  rp : r ≤ p + 1 + 10 * k
  gr : w.grownBy W (some g)
theorem PeoR.step {w W3 w' : World} {lo B g p k c c2 r : Nat} {A A2 : Option Addr} {ps : List Per} {q : Per} (hlo : w.heap.size = lo) (hB : B ≤ lo) (hgB : g < B) (own3 : OwnP W3 lo A k c ps) (rd3 : Rd W3 B g r) (gr3 : w.grownBy W3 (some g))
    (pay : Pays ps) (hq : 0 ≤ q.pay ∧ q.pay ≤ 999) (hr : r ≤ p + 1 + 10 * (k + 1)) (hb : OwnP w' lo A2 (k + 1) c2 (ps ++ [q])) (hg : W3.grownBy w' (Value.slice A k c).ownBlock) : PeoR w lo B g p (k + 1) A2 c2 (ps ++ [q]) r w' where
  own := hb
  pay := pays_snoc pay hq
  rd := rd3.grown hg (by have := gr3.size; omega) (fun x e => by have := (own3.1.lt x e).1; omega)
  rp := hr
  gr := grow_step gr3 hg (fun x e => .inr (by have := (own3.1.lt x e).1; omega))
theorem set4_far (w : World) (h : Nat) (u0 u1 u2 u3 : Value) : (∀ i, i ≠ h → ((((w.setCell ⟨h, 0, none⟩ u0).setCell ⟨h, 1, none⟩ u1).setCell ⟨h, 2, none⟩ u2).setCell ⟨h, 3, none⟩ u3).heap[i]? = w.heap[i]?) ∧
    ((((w.setCell ⟨h, 0, none⟩ u0).setCell ⟨h, 1, none⟩ u1).setCell ⟨h, 2, none⟩ u2).setCell ⟨h, 3, none⟩ u3).heap.size = w.heap.size := by
  refine ⟨fun i hi => ?_, by simp [World.setCell]⟩
  rw [Below.heap_setCell _ _ _ i (by simpa using hi), Below.heap_setCell _ _ _ i (by simpa using hi), Below.heap_setCell _ _ _ i (by simpa using hi), Below.heap_setCell _ _ _ i (by simpa using hi)]
theorem grown_set4 {w w5 : World} {g : Nat} (hg : w.grownBy w5 (some g)) (h : Nat) (u0 u1 u2 u3 : Value) (hh : w.heap.size ≤ h) : w.grownBy ((((w5.setCell ⟨h, 0, none⟩ u0).setCell ⟨h, 1, none⟩ u1).setCell ⟨h, 2, none⟩ u2).setCell ⟨h, 3, none⟩ u3) (some g) := by
  obtain ⟨h1, h2⟩ := set4_far w5 h u0 u1 u2 u3
  exact ⟨hg.os, hg.tape, hg.output, by rw [h2]; exact hg.size, fun i hi hne => (h1 i (by omega)).trans (hg.block i hi hne)⟩
set_option maxHeartbeats 2000000 in
set_option maxRecDepth 100000 in
theorem l91People_any (B g p : Nat) (w : World) (hr : Rd w B g p) (hB : B ≤ w.heap.size) (hp : p ≤ 800000) :
    Calls Try.prog 60 #[.pointer (some ⟨g, 0, none⟩), .int .i64 12] w (DrawnPeo w B g p) := by
  have hgB := hr.lt
  obtain ⟨lo, hlo⟩ : ∃ lo, w.heap.size = lo := ⟨_, rfl⟩
  have hnil := ownP_nil w
  rw [hlo] at hnil hB
  have hR0 := hr.alloc (by omega) (.cells #[] TP)
  have HR0 := Lib.hid hR0
  have HNIL := Lib.hid hnil
  have HLO := Lib.hid hlo
  clear hR0 hnil hr hlo
  go_enter Try.func60, Try.ntmps60
  go_wp2_with fail
  refine (pick_int B g p 13 _ HR0.out (by omega) (by omega) (by omega)).mono ?_
  rintro e w1 ⟨n, rfl, hn, hr1, hg1, hz1⟩
  have hst : PeoR w lo B g p 0 (some ⟨w.heap.size, 0, none⟩) 0 [] (p + 1) w1 :=
    ⟨by rw [HLO.out]; exact HNIL.out.grown_ hg1 (by omega), fun q hq => (by cases hq), hr1, by omega, (World.grownBy_alloc w _ _).trans hg1⟩
  have HST := Lib.hid hst
  clear hst hr1 hg1 HNIL HR0 hz1
  go_wp2_with fail
  go_loopw [5, 7] (fun v i wr => ∃ (k : Nat) (A : Option Addr) (c : Nat) (ps : List Per) (r : Nat), k ≤ n ∧ i = .int .i64 k ∧ v = .slice A k c ∧ Hid (PeoR w lo B g p k A c ps r wr)) (fun _ i _ => n - (intOf i).toNat)
  case atStart => exact ⟨0, _, _, _, _, Nat.zero_le _, rfl, rfl, HST⟩
  case round =>
    clear HST
    obtain ⟨k, A, c, ps, r, hk, rfl, rfl, HP⟩ := hrel
    obtain ⟨W, rfl⟩ : ∃ W : World, W = wr := ⟨_, rfl⟩
    by_cases hlt : k < n
    · have hwW : lo ≤ W.heap.size := by rw [← HLO.out]; exact HP.out.gr.size
      have hrp := HP.out.rp
      go_wp2_with fail
      refine (l91Person_any B g r _ HP.out.rd (by omega) (by omega)).mono ?_
      rintro e w2 ⟨⟨a, j, s, y⟩, rfl, hy, hr2, hg2⟩
      dsimp only [PV]
      dsimp only at hy
      have hs2 := hg2.size
      have HO2 := Lib.hid (HP.out.own.grown_ hg2 (by omega))
      have HR2 := Lib.hid hr2
      have HG2 := Lib.hid hg2
      clear hr2 hg2
      by_cases hk0 : k = 0
      · subst hk0
        have HO3 := Lib.hid (HO2.out.below ((Below.refl _ _).alloc (Nat.le_refl _) (.cells #[.int .i64 a, .int .i64 j, .int .i64 s, .int .i64 y] TP)))
        have HR3 := Lib.hid (HR2.out.alloc (by omega) (.cells #[.int .i64 a, .int .i64 j, .int .i64 s, .int .i64 y] TP))
        have HG3 := Lib.hid ((HP.out.gr.trans HG2.out).trans (World.grownBy_alloc w2 (.cells #[.int .i64 a, .int .i64 j, .int .i64 s, .int .i64 y] TP) (some g)))
        go_wp2_with (at_builtin; refine appP1s (.tmp 44) (.tmp 46) _ rfl (by rfl) (w2.alloc (.cells #[.int .i64 a, .int .i64 j, .int .i64 s, .int .i64 y] TP)) _ (by simp) lo Try.underlying27 A 0 c ps rfl HO3.out a j s y rfl (by omega) (by simp; omega) ?_; intro A9 c9 w9 ho9 hg9)
        have HP9 := Lib.hid (PeoR.step (p := p) (k := 0) (q := ⟨a, j, s, y⟩) HLO.out hB hgB HO3.out HR3.out HG3.out HP.out.pay hy (by omega) ho9 hg9)
        clear ho9 hg9
        go_wp2_with fail
        go_roundw
        case rel => exact ⟨1, A9, c9, _, _, by omega, by go_num, by go_num, HP9⟩
        case measure => simp [intOf]; omega
      · have hk0' : (0 : Int) < (k : Int) := by omega
        have HO3 := Lib.hid (HO2.out.below ((Below.refl _ _).alloc (Nat.le_refl _) (.cells #[.int .i64 a, .int .i64 j, .int .i64 s, .int .i64 y] TP)))
        have HR3 := Lib.hid (HR2.out.alloc (by omega) (.cells #[.int .i64 a, .int .i64 j, .int .i64 s, .int .i64 y] TP))
        have HG3 := Lib.hid ((HP.out.gr.trans HG2.out).trans (World.grownBy_alloc w2 (.cells #[.int .i64 a, .int .i64 j, .int .i64 s, .int .i64 y] TP) (some g)))
        go_wp2_with fail
        refine (pick_int B g _ 3 _ HR3.out (by omega) (by omega) (by omega)).mono ?_
        rintro e w4 ⟨k2, rfl, hk2, hr4, hg4, hz4⟩
        have hs4 := hg4.size
        simp only [World.size_alloc] at hs4
        obtain ⟨hb, hhb⟩ : ∃ h, w2.heap.size = h := ⟨_, rfl⟩
        have bb : Blk w4 w2.heap.size TP #[.int .i64 a, .int .i64 j, .int .i64 s, .int .i64 y] := (Blk.new w2 TP _).grown hg4 (by intro e; injection e with e; omega)
        rw [hhb] at bb hs4 ⊢
        have HO4 := Lib.hid (HO3.out.grown_ hg4 (by omega))
        have HR4 := Lib.hid hr4
        have HG4 := Lib.hid (HG3.out.trans hg4)
        have HHB := Lib.hid hhb
        have hlb : lo ≤ hb := by omega
        have HBL : Hid (∀ b, A = some ⟨b, 0, none⟩ → b < hb) := Lib.hid (by
          rintro b rfl
          have := (HO2.out.1.lt b rfl).2
          omega)
        have d0 := bb.cell 0
        have d1 := bb.cell 1
        have d2 := bb.cell 2
        have d3 := bb.cell 3
        simp at d0 d1 d2 d3
        have HBB := Lib.hid bb
        clear hr4 hg4 hhb bb HO3 HR3 HG3 HR2 HG2
        by_cases hk2 : k2 = 0
        · subst hk2
          go_wp2_with fail
          refine (pick_int B g _ (k : Int) _ HR4.out (by omega) (by omega) (by omega)).mono ?_
          rintro e w5 ⟨k3, rfl, hk3, hr5, hg5, hz5⟩
          have hs5 := hg5.size
          have HO5 := Lib.hid (HO4.out.grown_ hg5 (by omega))
          have HR5 := Lib.hid hr5
          have HG5 := Lib.hid (HG4.out.trans hg5)
          have b0 : Blk w5 hb TP #[.int .i64 a, .int .i64 j, .int .i64 s, .int .i64 y] := HBB.out.grown hg5 (by intro e; injection e with e; omega)
          obtain ⟨gA, ⟨a', j', s', y'⟩, rfl, hgl, hgs, hpk, hc⟩ := HO5.out.at_ (k := k3) (by omega)
          obtain ⟨c0, c1, c2, c3⟩ := hc
          dsimp only at c0 c1 c2 c3
          have hy' := HP.out.pay _ (List.mem_of_getElem? hpk)
          dsimp only at hy'
          have hgA := HBL.out gA rfl
          have b1 := b0.set_ 0 (.int .i64 a')
          have b2 := b1.set_ 1 (.int .i64 j')
          have b3 := b2.set_ 2 (.int .i64 s')
          have b4 := b3.set_ 3 (.int .i64 y')
          have q0 := b0.cell 0
          have q1 := b1.cell 1
          have q2 := b2.cell 2
          have q3 := b3.cell 3
          simp at q0 q1 q2 q3
          have f0 := b0.frozen 0
          have f1 := b1.frozen 1
          have f2 := b2.frozen 2
          have f3 := b3.frozen 3
          have i3 : (k3 : Int) < (k : Int) := hk3
          obtain ⟨w6, hw6⟩ : ∃ W, W = ((((w5.setCell ⟨hb, 0, none⟩ (.int .i64 a')).setCell ⟨hb, 1, none⟩ (.int .i64 j')).setCell ⟨hb, 2, none⟩ (.int .i64 s')).setCell ⟨hb, 3, none⟩ (.int .i64 y')) := ⟨_, rfl⟩
          have hfar := set4_far w5 hb (.int .i64 a') (.int .i64 j') (.int .i64 s') (.int .i64 y')
          have hgr6 := grown_set4 HG5.out hb (.int .i64 a') (.int .i64 j') (.int .i64 s') (.int .i64 y') (by have := HLO.out; omega)
          rw [← hw6] at hfar hgr6 b4
          have HB6 : Hid (Blk w6 hb TP #[.int .i64 a', .int .i64 j', .int .i64 s', .int .i64 y']) := Lib.hid (by simpa using b4)
          have HO6 := Lib.hid (HO5.out.keep1 (w' := w6) (hfar.1 gA (by omega)))
          have HR6 := Lib.hid (HR5.out.keep (w' := w6) fun i hi => hfar.1 i (by omega))
          have HG6 := Lib.hid hgr6
          have hs6 : hb < w6.heap.size := HB6.out.lt
          have HW6 := Lib.hid hw6
          clear hr5 hg5 b0 b1 b2 b3 b4 d0 d1 d2 d3 hpk hfar hgr6 hw6
          go_wp2_with fail
          rw [← HW6.out]
          have cR := HB6.out.cell 3
          have fR := HB6.out.frozen 3
          simp at cR
          go_region_with
            (first | (go_at_call 66; refine (pick_int _ _ _ 3 _ (HR6.out.below (below_drewN (Below.refl _ _) 1)) (by omega) (by omega) (by omega)).mono ?_; rintro e w9 ⟨k9, rfl, hk9, hr9, hg9, hz9⟩; have wk1 : IntKind.i64.wrap (100 * (k9 : Int)) = 100 * (k9 : Int) := IntWalk.i64_in _ (by omega); have wk2 : IntKind.i64.wrap (y' + 100 * (k9 : Int)) = y' + 100 * (k9 : Int) := IntWalk.i64_in _ (by omega); have cR9 := (hg9.cell_far ⟨hb, 3, none⟩ (by simp; omega) (by simp; omega)).trans cR; have fR9 := (World.frozen?_of_block (hg9.block hb (by simp; omega) (by simp; omega))).trans fR))
          all_goals
            have hg9' : w6.grownBy w9 (some g) := ⟨hg9.os, hg9.tape, hg9.output, hg9.size, hg9.block⟩
            obtain ⟨z, hz⟩ : ∃ z, (y' + 100 * (k9 : Int)).tmod 1000 = z := ⟨_, rfl⟩
            have hzb : 0 ≤ z ∧ z ≤ 999 := by rw [← hz, Int.tmod_eq_emod_of_nonneg (by omega)]; omega
            rw [hz]
            have b9 : Blk w9 hb TP #[.int .i64 a', .int .i64 j', .int .i64 s', .int .i64 y'] := HB6.out.grown hg9' (by intro e; injection e with e; omega)
            have b7 := b9.set_ 3 (.int .i64 z)
            have d0 := b7.cell 0
            have d1 := b7.cell 1
            have d2 := b7.cell 2
            have d3 := b7.cell 3
            simp at d0 d1 d2 d3
            have HO9 := Lib.hid ((HO6.out.grown_ hg9' (by omega)).keep1 (w' := w9.setCell ⟨hb, 3, none⟩ (.int .i64 z)) (Below.heap_setCell _ _ _ _ (by simp; omega)))
            have HR9 := Lib.hid (hr9.keep (w' := w9.setCell ⟨hb, 3, none⟩ (.int .i64 z)) fun i hi => Below.heap_setCell _ _ _ i (by simp; omega))
            have hs9 : hb < w9.heap.size := by have := hg9'.size; omega
            have HG9 := Lib.hid (grow_step (HG6.out.trans hg9') (row := some hb) (w2 := w9.setCell ⟨hb, 3, none⟩ (.int .i64 z)) ⟨rfl, rfl, rfl, by simp [World.setCell], fun x hx hne => Below.heap_setCell _ _ _ x (fun e => hne (by rw [e]))⟩ (fun x e => .inr (by have := HLO.out; injection e with e; omega)))
            clear hg9 hr9 b9 b7 hg9' cR fR cR9 fR9 wk1 wk2 hz
            obtain ⟨w7, hw7⟩ : ∃ W, W = w9.setCell ⟨hb, 3, none⟩ (.int .i64 z) := ⟨_, rfl⟩
            have hs7 : w7.heap.size = w9.heap.size := by rw [hw7]; simp [World.setCell]
            rw [← hw7] at d0 d1 d2 d3 HO9 HR9 HG9 ⊢
            clear hw7
            go_wp2_with (at_builtin; refine appP1s (.tmp 44) (.tmp 46) _ rfl (by rfl) w7 _ hs7 lo Try.underlying27 (some ⟨gA, 0, none⟩) k c ps rfl HO9.out a' j' s' z rfl (by omega) (by omega) ?_; intro A9 c9 w9 ho9 hg9)
            have HP9 := Lib.hid (PeoR.step (p := p) (k := k) (q := ⟨a', j', s', z⟩) HLO.out hB hgB HO9.out HR9.out HG9.out HP.out.pay hzb (by omega) ho9 hg9)
            clear ho9 hg9
            go_wp2_with fail
            go_roundw
            case rel => exact ⟨k + 1, A9, c9, _, _, by omega, by go_num, by go_num, HP9⟩
            case measure => simp [intOf]; omega
        · have hk2' : ((k2 : Int) == 0) = false := beq_eq_false_iff_ne.2 (by omega)
          go_wp2_with (at_builtin; refine appP1s (.tmp 44) (.tmp 46) _ rfl (by rfl) w4 _ rfl lo Try.underlying27 A k c ps rfl HO4.out a j s y rfl (by omega) (by omega) ?_; intro A9 c9 w9 ho9 hg9)
          have HP9 := Lib.hid (PeoR.step (p := p) (k := k) (q := ⟨a, j, s, y⟩) HLO.out hB hgB HO4.out HR4.out HG4.out HP.out.pay hy (by omega) ho9 hg9)
          clear ho9 hg9
          go_wp2_with fail
          go_roundw
          case rel => exact ⟨k + 1, A9, c9, _, _, by omega, by go_num, by go_num, HP9⟩
          case measure => simp [intOf]; omega
    · obtain rfl : k = n := by omega
      have hrp := HP.out.rp
      have hpl := HP.out.own.2
      have hwW : lo ≤ W.heap.size := by rw [← HLO.out]; exact HP.out.gr.size
      by_cases hn0 : k = 0
      · subst hn0
        go_wp2_with fail
        go_ret
        exact ⟨A, c, ps, r, by rw [hpl]; rfl, by omega, by rw [hpl]; exact HP.out.own.lower hB, HP.out.rd, by omega, HP.out.gr⟩
      · have hn1 : (0 : Int) < (k : Int) := by omega
        go_wp2_with fail
        refine (pick_int B g _ 40 _ HP.out.rd (by omega) (by omega) (by omega)).mono ?_
        rintro e w4 ⟨k4, rfl, hk4, hr4, hg4, hz4⟩
        have hs4 := hg4.size
        have ho4 := HP.out.own.grown_ hg4 (by omega)
        obtain ⟨gA, q, rfl, hgl, hgs, hpk, hc⟩ := ho4.at_ (k := 0) (by omega)
        obtain ⟨pa, pj, ps', py⟩ := q
        obtain ⟨c0, c1, c2, c3⟩ := hc
        simp only [Nat.zero_mul, Nat.zero_add] at c0 c1 c2 c3
        have hpl0 : ∀ q, (ps.set 0 q).length = k := fun q => by rw [List.length_set]; exact hpl
        have HO4 := Lib.hid ho4
        have HG4 := Lib.hid (HP.out.gr.trans hg4)
        have HR4 := Lib.hid hr4
        have hgrow : ∀ (i : Nat) (v : Value), w.grownBy (w4.setCell ⟨gA, i, none⟩ v) (some g) := fun i v => grow_step HG4.out (row := some gA) ⟨rfl, rfl, rfl, by simp [World.setCell], fun x hx hne => Below.heap_setCell _ _ _ x (fun e => hne (by rw [e]))⟩ (fun x e => .inr (by have := HLO.out; injection e with e; omega))
        have hrset : ∀ (i : Nat) (v : Value), Rd (w4.setCell ⟨gA, i, none⟩ v) B g (r + 1) := fun i v => HR4.out.keep fun x hx => Below.heap_setCell _ _ _ x (by simp; omega)
        have HGS := Lib.hid hgrow
        have HRS := Lib.hid hrset
        have HPK := Lib.hid hpk
        clear ho4 hr4 hg4 hgrow hrset hpk
        by_cases e0 : k4 = 0
        · subst e0
          go_wp2_with fail
          refine (pick_int B g _ 2 _ (HR4.out.alloc (by omega) _) (by omega) (by omega) (by omega)).mono ?_
          rintro e w5 ⟨k5, rfl, hk5, hr5, hg5, hz5⟩
          have hs5 := hg5.size
          simp only [World.size_alloc] at hs5
          obtain ⟨z, hz⟩ : ∃ z : Int, (#[.int .i64 (-1), .int .i64 4] : Array Value)[k5]? = some (.int .i64 z) := by
            have h2 : k5 = 0 ∨ k5 = 1 := by omega
            rcases h2 with rfl | rfl
            · exact ⟨-1, rfl⟩
            · exact ⟨4, rfl⟩
          have hcl : w5.cell? ⟨w4.heap.size, k5, none⟩ = some (.int .i64 z) := by
            have h1 := (Blk.new w4 3 #[.int .i64 (-1), .int .i64 4]).grown hg5 (by intro e; injection e with e; omega)
            rw [h1.cell]; exact hz
          have hg45 : w4.grownBy w5 (some g) := (World.grownBy_alloc w4 _ (some g)).trans hg5
          have ho5 := HO4.out.grown_ hg45 (by omega)
          obtain ⟨f0, ho6⟩ := ho5.area HPK.out z
          simp only [Nat.zero_mul] at f0 ho6
          have d0 : w5.cell? ⟨gA, 0, none⟩ = some (.int .i64 pa) := (hg45.cell_far ⟨gA, 0, none⟩ hgs (by simp; omega)).trans c0
          have HO6 := Lib.hid ho6
          have hgr6 : w.grownBy (w5.setCell ⟨gA, 0, none⟩ (.int .i64 z)) (some g) := grow_step (HG4.out.trans hg45) (row := some gA) ⟨rfl, rfl, rfl, by simp [World.setCell], fun x hx hne => Below.heap_setCell _ _ _ x (fun e => hne (by rw [e]))⟩ (fun x e => .inr (by have := HLO.out; injection e with e; omega))
          have HG6 := Lib.hid hgr6
          have HR6 := Lib.hid (hr5.keep (w' := w5.setCell ⟨gA, 0, none⟩ (.int .i64 z)) fun x hx => Below.heap_setCell _ _ _ x (by simp; omega))
          clear hr5 hg5 hz hg45 ho5 ho6 hgr6
          go_wp2_with fail
          go_ret
          exact ⟨_, c, ps.set 0 ⟨z, pj, ps', py⟩, _, by rw [hpl0]; rfl, by rw [hpl0]; omega, by rw [hpl0]; exact HO6.out.lower hB, HR6.out, by omega, HG6.out⟩
        · by_cases e1 : k4 = 1
          · subst e1
            obtain ⟨f3, ho⟩ := HO4.out.pay HPK.out 1000
            simp only [Nat.zero_mul, Nat.zero_add] at f3 ho
            have HO := Lib.hid ho
            clear ho
            go_wp2_with fail
            go_ret
            exact ⟨_, c, ps.set 0 ⟨pa, pj, ps', 1000⟩, _, by rw [hpl0]; rfl, by rw [hpl0]; omega, by rw [hpl0]; exact HO.out.lower hB, HRS.out _ _, by omega, HGS.out _ _⟩
          · by_cases e2 : k4 = 2
            · subst e2
              obtain ⟨f3, ho⟩ := HO4.out.sex HPK.out 2
              simp only [Nat.zero_mul, Nat.zero_add] at f3 ho
              have HO := Lib.hid ho
              clear ho
              go_wp2_with fail
              go_ret
              exact ⟨_, c, ps.set 0 ⟨pa, pj, 2, py⟩, _, by rw [hpl0]; rfl, by rw [hpl0]; omega, by rw [hpl0]; exact HO.out.lower hB, HRS.out _ _, by omega, HGS.out _ _⟩
            · have e0' : ((k4 : Int) == 0) = false := beq_eq_false_iff_ne.2 (by omega)
              have e1' : ((k4 : Int) == 1) = false := beq_eq_false_iff_ne.2 (by omega)
              have e2' : ((k4 : Int) == 2) = false := beq_eq_false_iff_ne.2 (by omega)
              go_wp2_with fail
              go_ret
              exact ⟨_, c, ps, _, by rw [hpl]; rfl, by omega, by rw [hpl]; exact HO4.out.lower hB, HR4.out, by omega, HG4.out⟩
end Go.Proofs.Ytncnghmadeghlaa
