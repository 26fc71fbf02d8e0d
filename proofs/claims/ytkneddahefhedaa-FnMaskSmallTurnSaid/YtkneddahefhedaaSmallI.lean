/- MaskSmall of the program. -/
import Derived.Test.YtkneddahefhedaaGrowA
import Derived.Test.YtkneddahefhedaaInfo
import Derived.Test.YtkneddahefhedaaTabValidI
import Derived.Test.YtkneddahefhedaaBlank
namespace Go.Proofs.Ytkneddahefhedaa
open Go.RowKit
set_option linter.unusedVariables false
/-- a small number -/
def sm (k x : Int) : Bool := decide (0 < x ∧ x < k)
theorem sm_yes {k x : Int} (h0 : 0 < x) (h1 : x < k) : sm k x = true := by simp [sm, h0, h1]
theorem sm_no {k x : Int} (h : ¬ (0 < x ∧ x < k)) : sm k x = false := by rw [sm, decide_eq_false h]
/-- the rows up to i, of row i the first j -/
def rowsTo (wd : Nat) (k : Int) (G : Nat → Nat → Int) (i j : Nat) : Nat → List Bool := fun a => mkL (if a < i then wd else if a = i then j else 0) (fun b => sm k (G a b))
theorem rowsTo_up (wd : Nat) (k : Int) (G : Nat → Nat → Int) (i j : Nat) : up1 (rowsTo wd k G i j) i (rowsTo wd k G i j i ++ [sm k (G i j)]) = rowsTo wd k G i (j + 1) := by
  funext a
  by_cases h : a = i
  · subst h
    simp only [up1, if_true, rowsTo, Nat.lt_irrefl, if_false]
    rw [mkL_succ]
  · simp only [up1, if_neg h, rowsTo]
theorem rowsTo_next (wd : Nat) (k : Int) (G : Nat → Nat → Int) (i : Nat) : rowsTo wd k G i wd = rowsTo wd k G (i + 1) 0 := by
  funext a
  simp only [rowsTo]
  by_cases h : a < i
  · rw [if_pos h, if_pos (by omega)]
  · by_cases h2 : a = i
    · rw [if_neg h, if_pos h2, if_pos (by omega)]
    · rw [if_neg h, if_neg h2, if_neg (by omega)]
      split <;> rfl
theorem rowsTo_at (wd : Nat) (k : Int) (G : Nat → Nat → Int) (i j : Nat) : (rowsTo wd k G i j i).length = j := by simp [rowsTo, mkL_len]
theorem rowsTo_all (h wd : Nat) (k : Int) (G : Nat → Nat → Int) : mkL h (rowsTo wd k G h 0) = mkT h wd fun a b => sm k (G a b) := mkL_ext fun a ha => by simp [rowsTo, ha]
/-- the mask of small cells -/
def smallT (t : List (List Int)) (k : Int) : List (List Bool) := if tabValid t then mkT t.length (wid t) (fun a b => sm k (cel 0 t a b)) else []
theorem smallT_no {t : List (List Int)} {k : Int} (h : tabValid t = false) : smallT t k = [] := by simp [smallT, h]
theorem smallT_yes {h wd : Nat} {G : Nat → Nat → Int} {k : Int} (g : Good h wd G) : smallT (mkT h wd G) k = mkT h wd fun a b => sm k (G a b) := by
  rw [smallT, if_pos g.valid, mkT_len, mkT_wid _ g.h1]
  exact mkT_ext fun i j hi hj => by rw [cel_mk hi hj]
set_option maxHeartbeats 400000 in
theorem implSmall_no (A : Option Addr) (c : Nat) (t : List (List Int)) (k : Int) (w : World) (hx : Tab IntV w A t) (hl : t.length ≤ maxLen) (hv : tabValid t = false) :
    Calls Try.prog 24 #[.slice A t.length c, .int .i64 k] w fun e w' => e = .returned (.tuple #[.slice none 0 0, .bool false]) ∧ w = w' := by
  go_enter Try.func24, Try.ntmps24
  go_wp2_with fail
  refine (implTableValid_any A c t _ hx hl).mono ?_
  rintro e w' ⟨rfl, rfl⟩
  go_wp2_with fail
  go_ret2
  exact ⟨rfl, rfl⟩
set_option maxHeartbeats 1000000 in
theorem implSmall_yes (A : Option Addr) (c h wd : Nat) (G : Nat → Nat → Int) (k : Int) (w : World) (hx : Tab IntV w A (mkT h wd G)) (g : Good h wd G) :
    Calls Try.prog 24 #[.slice A h c, .int .i64 k] w (GotT BoolV 4 w (mkT h wd fun a b => sm k (G a b)) true) := by
  have h1 := g.h1
  have h4 := g.h4
  have w1 := g.w1
  have w4 := g.w4
  have hc := implTableValid_any A c (mkT h wd G) w hx (by rw [mkT_len]; unfold maxLen; omega)
  rw [mkT_len, g.valid] at hc
  have HC := Lib.hid hc
  clear hc
  have hmk := run_make_row' (P := Try.prog) 36 40 (.slice none 0 0) 24 Try.underlying36 nfoBS rfl .i64 .i64 h (by omega) (by omega)
  have hst : Grow BoolV 40 4 w.heap.size (w.alloc (.cells (madeCells #[.slice none 0 0] h) 40)) (.slice (some ⟨w.heap.size, 0, none⟩) h h) (fun _ => .slice none 0 0) (mkL h (rowsTo wd k G 0 0)) := by
    refine ⟨?_, fun j r hr => ?_, fun j b _ e => by simp [Value.ownBlock] at e, fun i j b _ _ _ e => by simp [Value.ownBlock] at e⟩
    · have := own_made w (.slice none 0 0) h 40 (by unfold maxLen; omega)
      rw [mkL_len, ← mkL_rep]
      exact this
    · have hj : j < h := by have := (List.getElem?_eq_some_iff.1 hr).1; rwa [mkL_len] at this
      rw [mkL_get _ hj] at hr
      injection hr with hr
      have : r = [] := by rw [← hr]; simp [rowsTo, mkL]
      subst this
      exact ⟨rfl, .inl ⟨rfl, rfl⟩⟩
  have HST := Lib.hid hst
  have HB0 : Hid (Below w.heap.size w (w.alloc (.cells (madeCells #[.slice none 0 0] h) 40))) := Lib.hid ((Below.refl _ _).alloc (Nat.le_refl _) _)
  clear hst
  go_enter Try.func24, Try.ntmps24
  go_wp2_with fail
  refine HC.out.mono ?_
  rintro e w' ⟨rfl, rfl⟩
  go_wp2_with fail
  go_loopw [19] (fun i wr => ∃ (a : Nat) (vs : Nat → Value), a ≤ h ∧ i = .int .i64 a ∧ Hid (Grow BoolV 40 4 w.heap.size wr (.slice (some ⟨w.heap.size, 0, none⟩) h h) vs (mkL h (rowsTo wd k G a 0))) ∧ Hid (Below w.heap.size w wr)) (fun i _ => h - (intOf i).toNat)
  case atStart => exact ⟨0, _, Nat.zero_le _, rfl, HST, HB0⟩
  case round =>
    clear HST HB0 hmk
    obtain ⟨i, vs, hi', rfl, HG, HB⟩ := hrel
    obtain ⟨wo, rfl⟩ : ∃ wo : World, wo = wr := ⟨_, rfl⟩
    by_cases hi : i < h
    · obtain ⟨b0, o0, A0, c0, rfl, hbb, k0, hL⟩ := hx.mkrow hi
      have k1 : wo.cell? ⟨b0, o0 + i, none⟩ = some (.slice A0 wd c0) := (HB.out.cell (p := ⟨b0, o0 + i, none⟩) hbb).trans k0
      have HL0 := Lib.hid hL
      clear hL k0
      go_wp2_with fail
      go_loopw [26] (fun v wr => ∃ (m : Nat) (vs : Nat → Value), m ≤ wd ∧ v = .int .i64 m ∧ Hid (Grow BoolV 40 4 w.heap.size wr (.slice (some ⟨w.heap.size, 0, none⟩) h h) vs (mkL h (rowsTo wd k G i m))) ∧ Hid (Below w.heap.size w wr)) (fun v _ => wd - (intOf v).toNat)
      case atStart => exact ⟨0, vs, Nat.zero_le _, rfl, HG, HB⟩
      case round =>
        clear HG HB k1 hbb
        obtain ⟨j, vs, hj', rfl, HG, HB⟩ := hrel
        obtain ⟨W, rfl⟩ : ∃ W : World, W = wr := ⟨_, rfl⟩
        by_cases hj : j < wd
        · obtain ⟨b, o, x, rfl, hbb, hxk, k2⟩ := (HL0.out.below HB.out).1.at_ (k := j) (by rw [mkL_len]; exact hj)
          rw [mkL_get _ hj] at hxk
          injection hxk with hxk
          obtain ⟨g', hA, hg1, hg2, cO, fO⟩ := HG.out.outer_ (j := i) (by rw [mkL_len]; exact hi)
          obtain rfl : w.heap.size = g' := by injection hA with hA; injection hA
          have hrk := mkL_get (rowsTo wd k G i j) hi
          have hrow := HG.out.row i _ hrk
          obtain ⟨Ar, cr, hv, -⟩ := own_slice hrow
          rw [rowsTo_at] at hv hrow
          rw [hv] at cO hrow
          have HV := Lib.hid hv
          have HRK := Lib.hid hrk
          have HX := Lib.hid hxk
          have hWz := HB.out.size
          have g1 : (i : Int) < (h : Int) := by omega
          have htop : ∀ b, (Value.slice Ar j cr).ownBlock = some b → b ≠ w.heap.size := fun b e e2 => HG.out.top i b (by rw [mkL_len]; exact hi) (by rw [HV.out]; exact e) (by rw [e2]; rfl)
          have HTOP := Lib.hid htop
          clear hv hrk hxk hA htop
          have hbv : ((0 < x ∧ x < k) ∧ sm k x = true) ∨ ((0 < x ∧ ¬ x < k) ∧ sm k x = false) ∨ (¬ 0 < x ∧ sm k x = false) := by
            by_cases p1 : 0 < x
            · by_cases p2 : x < k
              · exact .inl ⟨⟨p1, p2⟩, sm_yes p1 p2⟩
              · exact .inr (.inl ⟨⟨p1, p2⟩, sm_no (fun e => p2 e.2)⟩)
            · exact .inr (.inr ⟨p1, sm_no (fun e => p1 e.1)⟩)
          have fin : ∀ (bv : Bool) (A' : Option Addr) (c' : Nat) (w6 : World), sm k x = bv → w6.ownsRow w.heap.size 4 1 (.slice A' (j + 1) c') (j + 1) ((rowsTo wd k G i j i).map BoolV ++ [.bool bv]) → W.grownBy w6 (Value.slice Ar j cr).ownBlock → (∀ b, (Value.slice A' (j + 1) c').ownBlock = some b → (Value.slice Ar j cr).ownBlock = some b ∨ W.heap.size ≤ b) →
              (w6.cell? ⟨w.heap.size, i, none⟩ = some (.slice Ar j cr) ∧ w6.frozen? ⟨w.heap.size, i, none⟩ = false) ∧ Hid (Grow BoolV 40 4 w.heap.size (w6.setCell ⟨w.heap.size, i, none⟩ (.slice A' (j + 1) c')) (.slice (some ⟨w.heap.size, 0, none⟩) h h) (up1 vs i (.slice A' (j + 1) c')) (mkL h (rowsTo wd k G i (j + 1)))) ∧ Hid (Below w.heap.size w (w6.setCell ⟨w.heap.size, i, none⟩ (.slice A' (j + 1) c'))) := by
            intro bv A' c' w6 hsm ho6 hg6 hn6
            have hbl : w6.heap[w.heap.size]? = W.heap[w.heap.size]? := hg6.block _ hg2 (fun e => HTOP.out _ e.symm rfl)
            refine ⟨⟨(World.cell?_of_block (w := W) (a := ⟨w.heap.size, i, none⟩) hbl).trans cO, (World.frozen?_of_block (w := W) (a := ⟨w.heap.size, i, none⟩) hbl).trans fO⟩, Lib.hid ?_, Lib.hid ?_⟩
            · rw [← rowsTo_up, ← mkL_set]
              refine HG.out.app HRK.out (m := j + 1) (by rw [List.length_append, rowsTo_at]; rfl) ?_ (by rw [HV.out]; exact hg6) (by rw [HV.out]; exact hn6)
              rw [HX.out, hsm, List.map_append]
              exact ho6
            · exact (HB.out.grown hg6 HB.out.size (fun b e => (hrow.lt b e).1)).setCell (p := ⟨w.heap.size, i, none⟩) (Nat.le_refl _) _
          have FIN := Lib.hid fin
          clear fin
          rcases hbv with ⟨⟨p1, p2⟩, hs⟩ | ⟨⟨p1, p2⟩, hs⟩ | ⟨p1, hs⟩
          all_goals
            have HSM := Lib.hid hs
            clear hs
            go_wp2_with (at_builtin; refine appV (.tmp 35) (.tmp 43) _ rfl (by rfl) W w.heap.size 4 (.bool false) 1 Try.underlying40 nfoB rfl Ar j cr ((rowsTo wd k G i j i).map BoolV) (by rw [List.length_map, rowsTo_at]) rfl hrow (.bool _) rfl rfl (by omega) (by omega) hWz ?_)
            intro A' c' w6 ho6 hg6 hn6
            obtain ⟨⟨cO6, fO6⟩, HG6, HB6⟩ := FIN.out _ A' c' w6 HSM.out ho6 hg6 hn6
            clear ho6 hg6 hn6 cO fO hrow k2
            go_wp2_with fail
            go_roundw
            case rel => exact ⟨j + 1, _, by omega, by go_num, HG6, HB6⟩
            case measure => simp [intOf]; omega
        · obtain rfl : j = wd := by omega
          have HG2 : Hid (Grow BoolV 40 4 w.heap.size W (.slice (some ⟨w.heap.size, 0, none⟩) h h) vs (mkL h (rowsTo j k G (i + 1) 0))) := Lib.hid (by rw [← rowsTo_next]; exact HG.out)
          go_wp2_with fail
          go_roundw
          case rel => exact ⟨i + 1, vs, by omega, by go_num, HG2, HB⟩
          case measure => simp [intOf]; omega
    · obtain rfl : i = h := by omega
      go_wp2_with fail
      go_ret2
      have hG := HG.out
      rw [rowsTo_all] at hG
      refine ⟨some ⟨w.heap.size, 0, none⟩, i, by rw [mkT_len]; rfl, by rw [mkT_len]; exact ⟨Nat.le_refl _, by unfold maxLen; omega, fun e => by cases e⟩, Grow.hold (c := i) (by rw [mkT_len]; exact hG), HB.out⟩
theorem implSmall_any (A : Option Addr) (c : Nat) (t : List (List Int)) (k : Int) (w : World) (hx : Tab IntV w A t) (hl : t.length ≤ maxLen) (hwk : (Lit.int .i64 k).wf = true) :
    Calls Try.prog 24 #[.slice A t.length c, .int .i64 k] w (GotT BoolV 4 w (smallT t k) (tabValid t)) := by
  rcases tab_cases t with hv | ⟨h, wd, G, rfl, g⟩
  · refine (implSmall_no A c t k w hx hl hv).mono ?_
    rintro e w' ⟨rfl, rfl⟩
    rw [smallT_no hv, hv]
    exact ⟨none, 0, rfl, ⟨by simp, by unfold maxLen; omega, fun _ => rfl⟩, Hold.nil_, Below.refl _ _⟩
  · rw [mkT_len, smallT_yes g, g.valid]
    exact implSmall_yes A c h wd G k w hx g
end Go.Proofs.Ytkneddahefhedaa
