/- turnMask: the mask with rows and columns exchanged. -/
import Derived.Test.YtkneddahefhedaaMasks
import Derived.Test.YtkneddahefhedaaBlank
namespace Go.Proofs.Ytkneddahefhedaa
open Go.RowKit
set_option linter.unusedVariables false
set_option maxHeartbeats 1000000 in
theorem turnMask_any (A : Option Addr) (c h wd : Nat) (M : Nat → Nat → Bool) (w : World) (hx : Tab BoolV w A (mkT h wd M)) (h1 : 1 ≤ h) (h4 : h ≤ 4) (w4 : wd ≤ 4) :
    Calls Try.prog 44 #[.slice A h c] w fun e w' => ∃ A' c', e = .returned (.slice A' wd c') ∧ (wd ≤ c' ∧ c' ≤ maxLen) ∧ Tab BoolV w' A' (mkT wd h fun a b => M b a) ∧ Below w.heap.size w w' := by
  have hb0 : Below w.heap.size w (w.alloc (.cells #[] 40)) := (Below.refl _ _).alloc (Nat.le_refl _) _
  have hst := Grow.start (f := BoolV) w 40 4 (fun _ => undef)
  have HST := Lib.hid hst
  have HB0 := Lib.hid hb0
  have hpos : decide ((0 : Int) < (h : Int)) = true := decide_eq_true (by omega)
  clear hst hb0
  go_enter Try.func44, Try.ntmps44
  go_wp2_with fail
  go_loopw [3, 4] (fun v i wr => ∃ (a : Nat) (Ao : Option Addr) (co : Nat) (vs : Nat → Value), a ≤ wd ∧ i = .int .i64 a ∧ v = .slice Ao a co ∧ Hid (Grow BoolV 40 4 w.heap.size wr (.slice Ao a co) vs (mkT a h fun x y => M y x)) ∧ Hid (Below w.heap.size w wr)) (fun _ i _ => wd - (intOf i).toNat)
  case atStart => exact ⟨0, _, _, _, Nat.zero_le _, rfl, rfl, HST, HB0⟩
  case round =>
    clear HST HB0
    obtain ⟨i, Ao, co, vs, hi', rfl, rfl, HG, HB⟩ := hrel
    obtain ⟨wo, rfl⟩ : ∃ wo : World, wo = wr := ⟨_, rfl⟩
    obtain ⟨b0, o0, A0, c0, rfl, hbb0, k0, -⟩ := (hx.below HB.out).mkrow (i := 0) (by omega)
    simp only [Nat.add_zero] at k0
    by_cases hi : i < wd
    · have g1 : (i : Int) < (wd : Int) := by omega
      have HE : Hid ((wo.alloc (.cells #[] 4)).ownsRow wo.heap.size 4 1 (.slice (some ⟨wo.heap.size, 0, none⟩) 0 0) 0 ((mkL 0 fun b => M b i).map BoolV)) := Lib.hid (own_empty wo _)
      have HBE : Hid (Below wo.heap.size wo (wo.alloc (.cells #[] 4))) := Lib.hid ((Below.refl _ _).alloc (Nat.le_refl _) _)
      go_wp2_with fail
      go_loopw [5, 6] (fun v j wr => ∃ (m : Nat) (Ar : Option Addr) (cr : Nat), m ≤ h ∧ j = .int .i64 m ∧ v = .slice Ar m cr ∧ Hid (wr.ownsRow wo.heap.size 4 1 (.slice Ar m cr) m ((mkL m fun b => M b i).map BoolV)) ∧ Hid (Below wo.heap.size wo wr)) (fun _ j _ => h - (intOf j).toNat)
      case atStart => exact ⟨0, _, _, Nat.zero_le _, rfl, rfl, HE, HBE⟩
      case round =>
        clear HE HBE k0
        obtain ⟨j, Ar, cr, hj', rfl, rfl, HR, HBi⟩ := hrel
        obtain ⟨W, rfl⟩ : ∃ W : World, W = wr := ⟨_, rfl⟩
        have HBW := Lib.hid (HB.out.trans (HBi.out.mono HB.out.size))
        have hWz := HBi.out.size
        by_cases hj : j < h
        · obtain ⟨b, o, b', o', c', hA, hbb, k1, hbb', k2, -⟩ := (hx.below HBW.out).mk hj hi
          obtain ⟨rfl, rfl⟩ : b = b0 ∧ o = o0 := by injection hA with hA; injection hA with e1 e2; exact ⟨e1.symm, e2.symm⟩
          obtain ⟨x, hxv⟩ : ∃ x, M j i = x := ⟨_, rfl⟩
          rw [hxv] at k2
          have HX := Lib.hid hxv
          have hrow := HR.out
          have g2 : (j : Int) < (h : Int) := by omega
          clear hxv hA
          go_wp2_with (at_builtin; refine appV (.tmp 28) (.tmp 36) _ rfl (by rfl) W wo.heap.size 4 (.bool false) 1 Try.underlying40 nfoB rfl Ar j cr ((mkL j fun b => M b i).map BoolV) (by rw [List.length_map, mkL_len]) rfl hrow (.bool _) rfl rfl (by omega) (by omega) hWz ?_)
          intro A' c'' w6 ho6 hg6 hn6
          have HR6 : Hid (w6.ownsRow wo.heap.size 4 1 (.slice A' (j + 1) c'') (j + 1) ((mkL (j + 1) fun b => M b i).map BoolV)) := Lib.hid (by rw [mkL_succ, List.map_append, HX.out]; exact ho6)
          have HB6 : Hid (Below wo.heap.size wo w6) := Lib.hid (HBi.out.grown hg6 HBi.out.size (fun b e => (hrow.lt b e).1))
          clear ho6 hg6 hn6 hrow k1 k2
          go_wp2_with fail
          go_roundw
          case rel => exact ⟨j + 1, A', c'', by omega, by go_num, rfl, HR6, HB6⟩
          case measure => simp [intOf]; omega
        · obtain rfl : j = h := by omega
          have hout := (HG.out.below HBi.out).outer
          rw [mkT_len] at hout
          have hsz : w.heap.size ≤ W.heap.size := HBW.out.size
          have hrow : W.ownsRow wo.heap.size 4 1 (.slice Ar j cr) (mkL j fun b => M b i).length ((mkL j fun b => M b i).map BoolV) := by rw [mkL_len]; exact HR.out
          go_wp2_with (at_builtin; refine appV (.tmp 38) (.tmp 40) _ rfl (by rfl) W w.heap.size 40 (.slice none 0 0) 24 Try.underlying36 nfoBS rfl Ao i co (mkL i vs) (mkL_len _ _) rfl hout (.slice Ar j cr) rfl rfl (by omega) (by omega) hsz ?_)
          intro A2 c2 w6 ho6 hg6 hn6
          have hp := HG.out.push HBi.out hrow HB.out.size (by rw [mkT_len]; exact ho6) hg6 hn6
          have HP : Hid (Grow BoolV 40 4 w.heap.size w6 (.slice A2 (i + 1) c2) (up1 vs i (.slice Ar j cr)) (mkT (i + 1) j fun x y => M y x)) := Lib.hid (by
            rw [mkT_len] at hp
            rw [mkT, mkL_succ]
            exact hp)
          have HB6 : Hid (Below w.heap.size w w6) := Lib.hid (HBW.out.grown hg6 hsz (fun b e => (hout.lt b e).1))
          clear hp ho6 hg6 hn6 hout hrow
          go_wp2_with fail
          go_roundw
          case rel => exact ⟨i + 1, A2, c2, _, by omega, by go_num, rfl, HP, HB6⟩
          case measure => simp [intOf]; omega
    · obtain rfl : i = wd := by omega
      have g1 : decide ((i : Int) < (i : Int)) = false := decide_eq_false (by omega)
      go_wp2_with fail
      go_ret
      have hG := HG.out
      have hcap := hG.cap
      rw [mkT_len] at hcap
      exact ⟨Ao, co, rfl, hcap, (Grow.hold (c := co) (by rw [mkT_len]; exact hG)).tab, HB.out⟩
end Go.Proofs.Ytkneddahefhedaa
