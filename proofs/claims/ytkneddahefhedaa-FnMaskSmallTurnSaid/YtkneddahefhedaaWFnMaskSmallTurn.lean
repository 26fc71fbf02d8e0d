/- The walk of the law FnMaskSmallTurn: for every code it returns true and leaves old memory alone. -/
import Derived.Test.YtkneddahefhedaaSmallS
import Derived.Test.YtkneddahefhedaaSameMask
import Derived.Test.YtkneddahefhedaaDMask
import Derived.Test.YtkneddahefhedaaTurnM
import Derived.Test.YtkneddahefhedaaTurnI
import Derived.OpenShut
import Derived.Deep.RegionLaw
import Derived.Deep.RegionWith
import Derived.IntWalk
import Derived.ShutString
import Derived.BigQuiet
namespace Go.Proofs.Ytkneddahefhedaa.fnMaskSmallTurn
open Go.RowKit
set_option linter.unusedVariables false

theorem many_none (h wd : Nat) (G : Nat → Nat → Int) : manyT h wd (fun a b => sm 1 (G a b)) = 0 := by
  have e : ∀ a b, sm 1 (G a b) = false := fun a b => sm_no (by omega)
  simp only [manyT, e, b2i, Bool.false_eq_true, if_false]
  rw [sumN_ext (g := fun _ => 0) (fun i _ => sumN_zero _), sumN_zero]
theorem min_sm {x : Int} (h0 : 0 ≤ x) (h1 : x ≤ 99) : (if x < 1 then x else 1) = b2i (sm 100 x) := by
  by_cases h : 0 < x
  · rw [sm_yes h (by omega)]; simp [b2i]; omega
  · rw [sm_no (by omega)]; simp [b2i]; omega

set_option maxHeartbeats 1000000 in
theorem walk (A : Option Addr) (c : Nat) (bs : List Int) (w : World) (hx : Seq ByteV w A bs) (hl : bs.length ≤ maxLen) (hc : bs.length ≤ c) (hcm : c ≤ maxLen) (hw : ∀ n ∈ bs, (Lit.int .u8 n).wf = true) :
    Calls Try.prog 12 #[.slice A bs.length c] w (Yes w) := by
  have hby : ∀ b ∈ bs, 0 ≤ b ∧ b ≤ 255 := fun b hb => bounds_u8 (hw b hb)
  have HB := Lib.hid hby
  clear hw hby
  by_cases hbig : 1048576 < bs.length
  · unfold maxLen at hl
    go_enter Try.func12, Try.ntmps12
    go_wp2
    go_ret
    exact ⟨rfl, Below.refl _ _⟩
  have hb1 : decide (1048576 < (bs.length : Int)) = false := by simp; omega
  go_enter Try.func12, Try.ntmps12
  go_wp2_with fail
  refine (drawMaskSmall_any A c bs _ hx hl hc hcm HB.out).mono ?_
  rintro e w1 ⟨A1, c1, t, k, rfl, hc1, hT, hsh, hk7, h1⟩
  clear hx hl hc hcm HB hb1
  have hl := hsh.wf
  have ht4 := hsh.1
  have HT1 := Lib.hid hT
  have hkw : (Lit.int .i64 (k : Int)).wf = true := WalkArith.wf_i64 (by omega)
  clear hT

  rcases tab_cases t with hv | ⟨h, wd, G, rfl, gd⟩
  · have hi := implSmall_any A1 c1 t k w1 HT1.out hl hkw
    have hs := fun w (hT : Tab IntV w A1 t) => specSmall_any A1 c1 t k w hT hl hkw
    rw [smallT_no hv, hv] at hi
    simp only [smallT_no hv, hv] at hs
    have HI := Lib.hid hi
    have HS := Lib.hid hs
    clear hi hs hkw
    go_wp2_with fail
    refine HI.out.mono ?_
    rintro e w2 ⟨A2, c2, rfl, -, -, hb2⟩
    have h2 := h1.trans (hb2.mono h1.size)
    go_wp2_with fail
    refine (HS.out _ (HT1.out.below hb2)).mono ?_
    rintro e w3 ⟨A3, c3, rfl, -, -, hb3⟩
    have h3 := h2.trans (hb3.mono h2.size)
    go_wp2_with fail
    refine (sameMask_nil A2 A3 c2 c3 _).mono ?_
    rintro e w' ⟨rfl, rfl⟩
    go_wp2_with fail
    refine (sameMask_nil A2 A3 c2 c3 _).mono ?_
    rintro e w' ⟨rfl, rfl⟩
    go_wp2_with fail
    go_ret
    exact ⟨rfl, h3⟩

  · have h1' := gd.h1
    have h4' := gd.h4
    have w1' := gd.w1
    have w4' := gd.w4
    rw [mkT_len] at hl hc1 ht4 ⊢
    clear hkw
    go_wp2_with fail
    refine (implSmall_yes A1 c1 h wd G k _ HT1.out gd).mono ?_
    rintro e w2 ⟨A2, c2, rfl, hc2, hh2, hb2⟩
    rw [mkT_len] at hc2 ⊢
    have h2 := h1.trans (hb2.mono h1.size)
    have HT2 := Lib.hid (HT1.out.below hb2)
    have HO2 := Lib.hid hh2.tab
    clear hh2 HT1
    go_wp2_with fail
    refine (specSmall_yes A1 c1 h wd G k _ HT2.out gd).mono ?_
    rintro e w3 ⟨A3, c3, rfl, hc3, hT3, hb3⟩
    have h3 := h2.trans (hb3.mono h2.size)
    have HT3 := Lib.hid (HT2.out.below hb3)
    have HO3 := Lib.hid (HO2.out.below hb3)
    go_wp2_with fail
    refine (sameMask_same A2 A3 c2 c3 h wd _ _ HO3.out hT3 h4' w4').mono ?_
    rintro e w4 ⟨rfl, hq4⟩
    have h4 := h3.trans (hq4.below.mono h3.size)
    have HT4 := Lib.hid (HT3.out.below hq4.below)
    have HO4 := Lib.hid (HO3.out.below hq4.below)
    clear hT3 HT3 HO3 HT2 HO2

    go_wp2_with fail
    refine (implTurn_yes A1 c1 h wd G _ HT4.out gd).mono ?_
    rintro e w5 ⟨A5, c5, rfl, hc5, hh5, hb5⟩
    rw [mkT_len] at hc5 ⊢
    have h5 := h4.trans (hb5.mono h4.size)
    have HT5 := Lib.hid (HT4.out.below hb5)
    have HO5 := Lib.hid (HO4.out.below hb5)
    have HU5 := Lib.hid hh5.tab
    clear hh5 HT4 HO4 hc5
    go_wp2_with fail
    refine (implSmall_yes A5 c5 wd h (fun a b => G b a) k _ HU5.out gd.turn).mono ?_
    rintro e w6 ⟨A6, c6, rfl, hc6, hh6, hb6⟩
    rw [mkT_len] at hc6 ⊢
    have h6 := h5.trans (hb6.mono h5.size)
    have HT6 := Lib.hid (HT5.out.below hb6)
    have HO6 := Lib.hid (HO5.out.below hb6)
    have HX6 := Lib.hid hh6.tab
    clear hh6 HT5 HO5 HU5 hc6
    go_wp2_with fail
    refine (implSmall_yes A1 c1 h wd G 1 _ HT6.out gd).mono ?_
    rintro e w7 ⟨A7, c7, rfl, hc7, hh7, hb7⟩
    rw [mkT_len] at hc7 ⊢
    have h7 := h6.trans (hb7.mono h6.size)
    have HT7 := Lib.hid (HT6.out.below hb7)
    have HO7 := Lib.hid (HO6.out.below hb7)
    have HX7 := Lib.hid (HX6.out.below hb7)
    have HY7 := Lib.hid hh7.tab
    clear hh7 HT6 HO6 HX6 hc7
    go_wp2_with fail
    refine (implSmall_yes A1 c1 h wd G 100 _ HT7.out gd).mono ?_
    rintro e w8 ⟨A8, c8, rfl, hc8, hh8, hb8⟩
    rw [mkT_len] at hc8 ⊢
    have h8 := h7.trans (hb8.mono h7.size)
    have HT8 := Lib.hid (HT7.out.below hb8)
    have HO8 := Lib.hid (HO7.out.below hb8)
    have HX8 := Lib.hid (HX7.out.below hb8)
    have HY8 := Lib.hid (HY7.out.below hb8)
    have HZ8 := Lib.hid hh8.tab
    clear hh8 HT7 HO7 HX7 HY7 hc8 hb5 hb6 hb7 hb8 hb3 hb2
    go_wp2_with fail
    go_loop [17, 18] (fun s i => ∃ a : Nat, a ≤ h ∧ i = .int .i64 a ∧ s = .int .i64 (sumN a fun i => sumN wd fun j => b2i (sm 100 (G i j)))) (fun _ i => h - (intOf i).toNat)
    case atStart => exact ⟨0, Nat.zero_le _, rfl, rfl⟩
    case round =>
      obtain ⟨i, hi', rfl, rfl⟩ := hrel
      by_cases hi : i < h
      · obtain ⟨q, eq⟩ : ∃ q, sumN i (fun i => sumN wd fun j => b2i (sm 100 (G i j))) = q := ⟨_, rfl⟩
        have hr : ∀ m, m ≤ wd → 0 ≤ q + sumN m (fun j => b2i (sm 100 (G i j))) ∧ q + sumN m (fun j => b2i (sm 100 (G i j))) ≤ 100 := fun m hm => by rw [← eq]; exact manyP_range h4' w4' _ i m hi' hm
        have HR := Lib.hid hr
        have EQ := Lib.hid eq
        rw [eq]
        clear hr eq
        go_wp2_with fail
        go_loop [17, 19] (fun s j => ∃ m : Nat, m ≤ wd ∧ j = .int .i64 m ∧ s = .int .i64 (q + sumN m fun j => b2i (sm 100 (G i j)))) (fun _ j => wd - (intOf j).toNat)
        case atStart => exact ⟨0, Nat.zero_le _, rfl, by simp [sumN]⟩
        case round =>
          obtain ⟨j, hj', rfl, rfl⟩ := hrel
          have g1 : (i : Int) < (h : Int) := by omega
          by_cases hj : j < wd
          · obtain ⟨b, o, b', o', c', rfl, hbb, k1, hbb', k2, -⟩ := HT8.out.mk hi hj
            have g2 : (j : Int) < (wd : Int) := by omega
            obtain ⟨x, hxv⟩ : ∃ x, G i j = x := ⟨_, rfl⟩
            have x0 := gd.lo i j
            have x1 := gd.hi i j
            rw [hxv] at k2 x0 x1
            have hmin := min_sm x0 x1
            have hr1 := HR.out j (by omega)
            obtain ⟨s, es⟩ : ∃ s, q + sumN j (fun j => b2i (sm 100 (G i j))) = s := ⟨_, rfl⟩
            obtain ⟨d, hd⟩ : ∃ d, b2i (sm 100 x) = d := ⟨_, rfl⟩
            have HS : Hid (q + sumN (j + 1) (fun j => b2i (sm 100 (G i j))) = s + d) := Lib.hid (by rw [← es, ← hd, ← hxv]; simp only [sumN]; omega)
            have d0 := b2i_range (sm 100 x)
            rw [hd] at hmin d0
            have d1 := d0.1
            have d2 := d0.2
            rw [es] at hr1
            have r0 := hr1.1
            have r1 := hr1.2
            rw [es]
            clear hr1 es hxv hd d0
            go_wp2_with fail
            go_round
            case rel => exact ⟨j + 1, by omega, by go_num, by rw [HS.out]⟩
            case measure => simp [intOf]; omega
          · obtain rfl : j = wd := by omega
            obtain ⟨b, o, A', c', rfl, hbb, k1, -⟩ := HT8.out.mkrow hi
            go_wp2_with fail
            go_round
            case rel => exact ⟨i + 1, by omega, by go_num, by simp only [sumN]; rw [EQ.out]⟩
            case measure => simp [intOf]; omega
      · obtain rfl : i = h := by omega
        have hm1 := implMany_any A7 c7 i wd (fun a b => sm 1 (G a b))
        have hm2 := implMany_any A8 c8 i wd (fun a b => sm 100 (G a b))
        rw [many_none] at hm1
        obtain ⟨y, hy⟩ : ∃ y, manyT i wd (fun a b => sm 100 (G a b)) = y := ⟨_, rfl⟩
        rw [hy] at hm2
        rw [show sumN i (fun i => sumN wd fun j => b2i (sm 100 (G i j))) = y from hy]
        have yy : (y == y) = true := by simp
        have HM1 := Lib.hid hm1
        have HM2 := Lib.hid hm2
        clear hm1 hm2 hy
        go_wp2_with fail
        refine (turnMask_any A2 c2 i wd _ w8 HO8.out h1' h4' w4').mono ?_
        rintro e w9 ⟨A9, c9, rfl, hc9, hT9, hb9⟩
        have h9 := h8.trans (hb9.mono h8.size)
        go_wp2_with fail
        refine (sameMask_same A6 A9 c6 c9 wd i _ _ (HX8.out.below hb9) hT9 w4' h4').mono ?_
        rintro e w10 ⟨rfl, hq⟩
        have h10 := h9.trans (hq.below.mono h9.size)
        have hb10 := hb9.trans (hq.below.mono hb9.size)
        clear hT9 hq hb9
        go_wp2_with fail
        refine (HM1.out _ (HY8.out.below hb10) h4' w4').mono ?_
        rintro e w' ⟨rfl, rfl⟩
        go_wp2_with fail
        refine (HM2.out _ (HZ8.out.below hb10) h4' w4').mono ?_
        rintro e w' ⟨rfl, rfl⟩
        go_wp2_with fail
        go_ret
        exact ⟨rfl, h10⟩
end Go.Proofs.Ytkneddahefhedaa.fnMaskSmallTurn
