/- MaskSmall of the reference. -/
import Derived.Test.YtkneddahefhedaaSmallI
import Derived.Test.YtkneddahefhedaaTurnS
namespace Go.Proofs.Ytkneddahefhedaa
open Go.RowKit
set_option linter.unusedVariables false
set_option maxHeartbeats 400000 in
theorem specSmall_no (A : Option Addr) (c : Nat) (t : List (List Int)) (k : Int) (w : World) (hx : Tab IntV w A t) (hl : t.length ≤ maxLen) (hv : tabValid t = false) :
    Calls Try.prog 25 #[.slice A t.length c, .int .i64 k] w fun e w' => ∃ a, e = .returned (.tuple #[.slice a 0 0, .bool false]) ∧ Below w.heap.size w w' := by
  go_enter Try.func25, Try.ntmps25
  go_wp2_with fail
  refine (specTableValid_any A c t _ (hx.below ((Below.refl _ _).alloc (Nat.le_refl _) _)) hl).mono ?_
  rintro e w1 ⟨rfl, hq⟩
  go_wp2_with fail
  go_ret2
  exact ⟨_, rfl, ((Below.refl _ _).alloc (Nat.le_refl _) _).trans (hq.below.mono (by simp))⟩
set_option maxHeartbeats 1000000 in
theorem specSmall_yes (A : Option Addr) (c h wd : Nat) (G : Nat → Nat → Int) (k : Int) (w : World) (hx : Tab IntV w A (mkT h wd G)) (g : Good h wd G) :
    Calls Try.prog 25 #[.slice A h c, .int .i64 k] w fun e w' => ∃ A' c', e = .returned (.tuple #[.slice A' h c', .bool true]) ∧ (h ≤ c' ∧ c' ≤ maxLen) ∧ Tab BoolV w' A' (mkT h wd fun a b => sm k (G a b)) ∧ Below w.heap.size w w' := by
  have h1 := g.h1
  have h4 := g.h4
  have w1 := g.w1
  have w4 := g.w4
  have hb0 : Below w.heap.size w (w.alloc (.cells #[] 40)) := (Below.refl _ _).alloc (Nat.le_refl _) _
  have hc := specTableValid_any A c (mkT h wd G) _ (hx.below hb0) (by rw [mkT_len]; unfold maxLen; omega)
  rw [mkT_len, g.valid] at hc
  have HC := Lib.hid hc
  have hst := Grow.start (f := BoolV) w 40 4 (fun _ => undef)
  have HST := Lib.hid hst
  have HB0 := Lib.hid hb0
  clear hc hst hb0
  go_enter Try.func25, Try.ntmps25
  go_wp2_with fail
  refine HC.out.mono ?_
  rintro e wq ⟨rfl, hq⟩
  have HG0 := Lib.hid (HST.out.below hq.below)
  have HBq := Lib.hid (HB0.out.trans (hq.below.mono HB0.out.size))
  clear hq HST HB0
  go_wp2_with fail
  go_loopw [6, 7] (fun v i wr => ∃ (a : Nat) (Ao : Option Addr) (co : Nat) (vs : Nat → Value), a ≤ h ∧ i = .int .i64 a ∧ v = .slice Ao a co ∧ Hid (Grow BoolV 40 4 w.heap.size wr (.slice Ao a co) vs (mkT a wd fun x y => sm k (G x y))) ∧ Hid (Below w.heap.size w wr)) (fun _ i _ => h - (intOf i).toNat)
  case atStart => exact ⟨0, _, _, _, Nat.zero_le _, rfl, rfl, HG0, HBq⟩
  case round =>
    clear HG0 HBq
    obtain ⟨i, Ao, co, vs, hi', rfl, rfl, HG, HB⟩ := hrel
    obtain ⟨wo, rfl⟩ : ∃ wo : World, wo = wr := ⟨_, rfl⟩
    by_cases hi : i < h
    · have HE : Hid ((wo.alloc (.cells #[] 4)).ownsRow wo.heap.size 4 1 (.slice (some ⟨wo.heap.size, 0, none⟩) 0 0) 0 ((mkL 0 fun b => sm k (G i b)).map BoolV)) := Lib.hid (own_empty wo _)
      have HBE : Hid (Below wo.heap.size wo (wo.alloc (.cells #[] 4))) := Lib.hid ((Below.refl _ _).alloc (Nat.le_refl _) _)
      go_wp2_with fail
      go_loopw [8, 9] (fun v j wr => ∃ (m : Nat) (Ar : Option Addr) (cr : Nat), m ≤ wd ∧ j = .int .i64 m ∧ v = .slice Ar m cr ∧ Hid (wr.ownsRow wo.heap.size 4 1 (.slice Ar m cr) m ((mkL m fun b => sm k (G i b)).map BoolV)) ∧ Hid (Below wo.heap.size wo wr)) (fun _ j _ => wd - (intOf j).toNat)
      case atStart => exact ⟨0, _, _, Nat.zero_le _, rfl, rfl, HE, HBE⟩
      case round =>
        clear HE HBE
        obtain ⟨j, Ar, cr, hj', rfl, rfl, HR, HBi⟩ := hrel
        obtain ⟨W, rfl⟩ : ∃ W : World, W = wr := ⟨_, rfl⟩
        have HBW := Lib.hid (HB.out.trans (HBi.out.mono HB.out.size))
        have hWz := HBi.out.size
        have g1 : (i : Int) < (h : Int) := by omega
        by_cases hj : j < wd
        · obtain ⟨b, o, b', o', c', rfl, hbb, k1, hbb', k2, -⟩ := (hx.below HBW.out).mk hi hj
          obtain ⟨x, hxv⟩ : ∃ x, G i j = x := ⟨_, rfl⟩
          rw [hxv] at k2
          have HX := Lib.hid hxv
          have hrow := HR.out
          have g2 : (j : Int) < (wd : Int) := by omega
          have hbv : ((0 < x ∧ x < k) ∧ sm k x = true) ∨ ((0 < x ∧ ¬ x < k) ∧ sm k x = false) ∨ (¬ 0 < x ∧ sm k x = false) := by
            by_cases p1 : 0 < x
            · by_cases p2 : x < k
              · exact .inl ⟨⟨p1, p2⟩, sm_yes p1 p2⟩
              · exact .inr (.inl ⟨⟨p1, p2⟩, sm_no (fun e => p2 e.2)⟩)
            · exact .inr (.inr ⟨p1, sm_no (fun e => p1 e.1)⟩)
          clear hxv
          rcases hbv with ⟨⟨p1, p2⟩, hs⟩ | ⟨⟨p1, p2⟩, hs⟩ | ⟨p1, hs⟩
          all_goals
            have HSM := Lib.hid hs
            clear hs
            go_wp2_with (at_builtin; refine appV (.tmp 31) (.tmp 51) _ rfl (by rfl) W wo.heap.size 4 (.bool false) 1 Try.underlying40 nfoB rfl Ar j cr ((mkL j fun b => sm k (G i b)).map BoolV) (by rw [List.length_map, mkL_len]) rfl hrow (.bool _) rfl rfl (by omega) (by omega) hWz ?_)
            intro A' c'' w6 ho6 hg6 hn6
            have HR6 : Hid (w6.ownsRow wo.heap.size 4 1 (.slice A' (j + 1) c'') (j + 1) ((mkL (j + 1) fun b => sm k (G i b)).map BoolV)) := Lib.hid (by rw [mkL_succ, List.map_append, HX.out, HSM.out]; exact ho6)
            have HB6 : Hid (Below wo.heap.size wo w6) := Lib.hid (HBi.out.grown hg6 HBi.out.size (fun b e => (hrow.lt b e).1))
            clear ho6 hg6 hn6 hrow k1 k2
            go_wp2_with fail
            go_roundw
            case rel => exact ⟨j + 1, A', c'', by omega, by go_num, rfl, HR6, HB6⟩
            case measure => simp [intOf]; omega
        · obtain rfl : j = wd := by omega
          obtain ⟨b, o, A', c', rfl, hbb, k1, -⟩ := (hx.below HBW.out).mkrow hi
          have hout := (HG.out.below HBi.out).outer
          rw [mkT_len] at hout
          have hsz : w.heap.size ≤ W.heap.size := HBW.out.size
          have hrow : W.ownsRow wo.heap.size 4 1 (.slice Ar j cr) (mkL j fun b => sm k (G i b)).length ((mkL j fun b => sm k (G i b)).map BoolV) := by rw [mkL_len]; exact HR.out
          go_wp2_with (at_builtin; refine appV (.tmp 53) (.tmp 55) _ rfl (by rfl) W w.heap.size 40 (.slice none 0 0) 24 Try.underlying36 nfoBS rfl Ao i co (mkL i vs) (mkL_len _ _) rfl hout (.slice Ar j cr) rfl rfl (by omega) (by omega) hsz ?_)
          intro A2 c2 w6 ho6 hg6 hn6
          have hp := HG.out.push HBi.out hrow HB.out.size (by rw [mkT_len]; exact ho6) hg6 hn6
          have HP : Hid (Grow BoolV 40 4 w.heap.size w6 (.slice A2 (i + 1) c2) (up1 vs i (.slice Ar j cr)) (mkT (i + 1) j fun x y => sm k (G x y))) := Lib.hid (by
            rw [mkT_len] at hp
            rw [mkT, mkL_succ]
            exact hp)
          have HB6 : Hid (Below w.heap.size w w6) := Lib.hid (HBW.out.grown hg6 hsz (fun b e => (hout.lt b e).1))
          clear hp ho6 hg6 hn6 hout hrow
          go_wp2_with fail
          go_roundw
          case rel => exact ⟨i + 1, A2, c2, _, by omega, by go_num, rfl, HP, HB6⟩
          case measure => simp [intOf]; omega
    · obtain rfl : i = h := by omega
      go_wp2_with fail
      go_ret2
      have hG := HG.out
      have hcap := hG.cap
      rw [mkT_len] at hcap
      exact ⟨Ao, co, rfl, hcap, (Grow.hold (c := co) (by rw [mkT_len]; exact hG)).tab, HB.out⟩
theorem specSmall_any (A : Option Addr) (c : Nat) (t : List (List Int)) (k : Int) (w : World) (hx : Tab IntV w A t) (hl : t.length ≤ maxLen) (hwk : (Lit.int .i64 k).wf = true) :
    Calls Try.prog 25 #[.slice A t.length c, .int .i64 k] w (SeeT BoolV w (smallT t k) (tabValid t)) := by
  rcases tab_cases t with hv | ⟨h, wd, G, rfl, g⟩
  · refine (specSmall_no A c t k w hx hl hv).mono ?_
    rintro e w' ⟨a, rfl, hb⟩
    rw [smallT_no hv, hv]
    exact ⟨a, 0, rfl, ⟨by simp, by unfold maxLen; omega⟩, Tab.nil_, hb⟩
  · rw [mkT_len, smallT_yes g, g.valid]
    refine (specSmall_yes A c h wd G k w hx g).mono ?_
    rintro e w' ⟨A1, c1, rfl, hc1, hT, hb⟩
    exact ⟨A1, c1, by rw [mkT_len], by rw [mkT_len]; exact hc1, hT, hb⟩
end Go.Proofs.Ytkneddahefhedaa
