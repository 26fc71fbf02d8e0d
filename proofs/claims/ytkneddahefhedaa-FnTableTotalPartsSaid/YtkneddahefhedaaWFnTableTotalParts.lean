/- The walk of the law FnTableTotalParts: for every code it returns true and leaves old memory alone. -/
import Derived.Test.YtkneddahefhedaaSumsA
import Derived.Test.YtkneddahefhedaaDTabs
import Derived.Test.YtkneddahefhedaaTurnI
import Derived.Test.YtkneddahefhedaaQuietC
import Derived.OpenShut
import Derived.Deep.RegionLaw
import Derived.Deep.RegionWith
import Derived.IntWalk
import Derived.ShutString
import Derived.BigQuiet
namespace Go.Proofs.Ytkneddahefhedaa.fnTableTotalParts
open Go.RowKit
set_option linter.unusedVariables false

open Go.BigFrame
theorem mkT_take {h wd k : Nat} {G : Nat → Nat → Int} (hk : k ≤ h) : (mkT h wd G).take k = mkT k wd G := by
  simp only [mkT, mkL, ← List.map_take, List.take_range, Nat.min_eq_left hk]
theorem mkT_drop {h wd k : Nat} {G : Nat → Nat → Int} (hk : k ≤ h) : (mkT h wd G).drop k = mkT (h - k) wd (fun i => G (k + i)) := by
  apply List.ext_getElem?
  intro i
  rw [List.getElem?_drop]
  by_cases hi : i < h - k
  · rw [mkT_get _ (show k + i < h by omega), mkT_get _ hi]
  · rw [List.getElem?_eq_none (by rw [mkT_len]; omega), List.getElem?_eq_none (by rw [mkT_len]; omega)]

set_option maxHeartbeats 1000000 in
theorem walk (A : Option Addr) (c : Nat) (bs : List Int) (A' : Option Addr) (c' : Nat) (ms : List Int) (w : World) (hx : Seq ByteV w A bs) (hl : bs.length ≤ maxLen) (hc : bs.length ≤ c) (hcm : c ≤ maxLen) (hw : ∀ n ∈ bs, (Lit.int .u8 n).wf = true) (hx' : Seq ByteV w A' ms) (hl' : ms.length ≤ maxLen) (hc' : ms.length ≤ c') (hcm' : c' ≤ maxLen) (hw' : ∀ n ∈ ms, (Lit.int .u8 n).wf = true) :
    Calls Try.prog 9 #[.slice A bs.length c, .slice A' ms.length c'] w (Yes w) := by
  have hby : ∀ b ∈ bs, 0 ≤ b ∧ b ≤ 255 := fun b hb => bounds_u8 (hw b hb)
  have HB := Lib.hid hby
  clear hw hby hw' hx' hc' hcm'
  by_cases hbig : 1048576 < bs.length
  · unfold maxLen at hl hl'
    go_enter Try.func9, Try.ntmps9
    go_wp2
    go_ret
    exact ⟨rfl, Below.refl _ _⟩
  by_cases hbig' : 1048576 < ms.length
  · have hb1 : decide (1048576 < (bs.length : Int)) = false := by simp; omega
    unfold maxLen at hl hl'
    go_enter Try.func9, Try.ntmps9
    go_wp2
    go_ret
    exact ⟨rfl, Below.refl _ _⟩
  have hb1 : decide (1048576 < (bs.length : Int)) = false := by simp; omega
  have hb2 : decide (1048576 < (ms.length : Int)) = false := by simp; omega
  go_enter Try.func9, Try.ntmps9
  go_wp2_with fail
  refine (drawTableTotal_any A c bs _ hx hl hc hcm HB.out).mono ?_
  rintro e w1 ⟨A1, c1, t, rfl, hc1, hT, hsh, h1⟩
  clear hx hl hc hcm HB hb1 hb2
  have hl := hsh.wf
  have ht4 := hsh.1
  have HT1 := Lib.hid hT
  clear hT

  rcases tab_cases t with hv | ⟨h, wd, G, rfl, gd⟩
  · have hi := implTotal_any A1 c1 t w1 HT1.out hl
    have hs := fun w (hT : Tab IntV w A1 t) => specTotal_any A1 c1 t w hT hl
    rw [totT_no hv] at hi
    simp only [totT_no hv] at hs
    have HI := Lib.hid hi
    have HS := Lib.hid hs
    clear hi hs
    go_wp2_with fail
    refine HI.out.mono ?_
    rintro e w2 ⟨rfl, hb2⟩
    have h2 := h1.trans (hb2.mono h1.size)
    go_wp2_with fail
    refine (HS.out _ (HT1.out.below hb2)).mono ?_
    rintro e w3 ⟨rfl, hb3⟩
    have h3 := h2.trans (hb3.mono h2.size)
    go_wp2_with fail
    go_ret
    exact ⟨rfl, h3⟩
  · have h1' := gd.h1
    have h4' := gd.h4
    have w1' := gd.w1
    have w4' := gd.w4
    rw [mkT_len] at hl hc1 ht4 ⊢
    have tr0 := (tot_range gd).1
    have tr1 := (tot_range gd).2
    obtain ⟨T, eT⟩ : ∃ T, T = tot h wd G := ⟨_, rfl⟩
    have hI := fun w (hT : Tab IntV w A1 (mkT h wd G)) => implTotal_yes A1 c1 h wd G w hT gd
    have hS := fun w (hT : Tab IntV w A1 (mkT h wd G)) => specTotal_yes A1 c1 h wd G w hT gd
    simp only [← eT] at hI hS
    rw [← eT] at tr0 tr1
    have HI := Lib.hid hI
    have HS := Lib.hid hS
    have ET := Lib.hid eT
    have f1 : (T != T) = false := by simp
    have f2 : decide (T < 0) = false := decide_eq_false (by omega)
    clear hI hS eT
    go_wp2_with fail
    refine (HI.out _ HT1.out).mono ?_
    rintro e w2 ⟨rfl, hb2⟩
    have h2 := h1.trans (hb2.mono h1.size)
    have HT2 := Lib.hid (HT1.out.below hb2)
    go_wp2_with fail
    refine (HS.out _ HT2.out).mono ?_
    rintro e w3 ⟨rfl, hb3⟩
    have h3 := h2.trans (hb3.mono h2.size)
    have HT3 := Lib.hid (HT2.out.below hb3)
    clear HT1 HT2
    obtain ⟨k, hk, hk1⟩ : ∃ k : Nat, (ms.length : Int) % (h : Int) = (k : Int) ∧ k < h := ⟨ms.length % h, by simp, Nat.mod_lt _ (by omega)⟩
    go_wp2_with fail
    rw [hk]
    clear hk
    refine (implTurn_yes A1 c1 h wd G _ HT3.out gd).mono ?_
    rintro e w4 ⟨A4, c4, rfl, hc4, hh4, hb4⟩
    rw [mkT_len] at hc4 ⊢
    have h4 := h3.trans (hb4.mono h3.size)
    have HT4 := Lib.hid (HT3.out.below hb4)
    have HU4 := Lib.hid hh4.tab
    have hI4 := implTotal_yes A4 c4 wd h (fun a b => G b a) w4 HU4.out gd.turn
    rw [show tot wd h (fun a b => G b a) = T from by rw [ET.out, tot, tot, sumN_swap]] at hI4
    have HI4 := Lib.hid hI4
    clear hh4 hI4 HT3
    obtain ⟨I, fI, hne, hI⟩ := class_of w4.heap.size w4
    have HCD := Lib.hid hI
    have HA : Hid (∀ i, Calls Try.prog 21 #[.slice A4 wd c4] (fI i) fun e W' => e = .returned (.int .i64 T) ∧ ∃ j, W' = fI j) := Lib.hid fun i => class_call hI (Nat.le_refl _) i fun hW => by
      have := implTotal_yes A4 c4 wd h (fun a b => G b a) _ (HU4.out.below hW) gd.turn
      rw [show tot wd h (fun a b => G b a) = T from by rw [ET.out, tot, tot, sumN_swap]] at this
      exact this
    have tt : (T == T) = true := by simp
    have Q4 : Hid (∃ i, { w4 with drawn := w4.drawn + 1 } = fI i) := Lib.hid ((hI _).2 (Below.refl _ _).drew)
    have hmx : Try.prog.follows .mixedOrders = true := by kernel_rfl
    clear HI4 hI
    by_cases hk0 : k = 0
    · subst hk0
      go_wp2_with fail
      refine wp_region_quiet (C := fun W => ∃ i, W = fI i) hmx (by kernel_rfl) Q4.out ?_
      dsimp only
      repeat (first | go_big_quiet_skip | (go_big_quiet_want; go_big_quiet_op; first | go_big_quiet_on | go_big_quiet_call (with_reducible exact HA.out _)))
      refine wpQuiet_nil ?_
      intro w9 hw9
      have hb9 := (HCD.out _).1 hw9
      clear hw9
      go_wp2_with fail
      go_ret
      exact ⟨rfl, h4.trans (hb9.mono h4.size)⟩
    · have kz : ((k : Int) == 0) = false := beq_eq_false_iff_ne.2 (by omega)
      obtain ⟨b, o, A', c', rfl, hbb, k1, -⟩ := HT4.out.mkrow (i := 0) (by omega)
      have hkc : k ≤ c1 := by omega
      have hne : ¬ c1 = k := by omega
      have gA : Good k wd G := ⟨by omega, by omega, w1', w4', gd.lo, gd.hi⟩
      have gB : Good (h - k) wd (fun i => G (k + i)) := ⟨by omega, by omega, w1', w4', fun i j => gd.lo _ j, fun i j => gd.hi _ j⟩
      have hTA : Tab IntV w4 (some ⟨b, o, none⟩) (mkT k wd G) := by
        have := HT4.out.take k
        rwa [show (mkT h wd G).take k = mkT k wd G from mkT_take (by omega)] at this
      have hTB : Tab IntV w4 (some ⟨b, o + k, none⟩) (mkT (h - k) wd (fun i => G (k + i))) := by
        have := HT4.out.drop (k := k) (cap := c1) (by rw [mkT_len]; omega)
        rwa [if_neg hne, Option.map_some, show (⟨b, o, none⟩ : Addr).add k = ⟨b, o + k, none⟩ by simp [Addr.add, hk0], show (mkT h wd G).drop k = mkT (h - k) wd (fun i => G (k + i)) from mkT_drop (by omega)] at this
      obtain ⟨x, ex⟩ : ∃ x, x = tot k wd G := ⟨_, rfl⟩
      obtain ⟨y, ey⟩ : ∃ y, y = tot (h - k) wd (fun i => G (k + i)) := ⟨_, rfl⟩
      have x0 := (tot_range gA).1
      have x1 := (tot_range gA).2
      have y0 := (tot_range gB).1
      have y1 := (tot_range gB).2
      have hxy : x + y = T := by
        rw [ET.out, ex, ey, tot, tot, tot]
        have := sumN_split k (h - k) (fun i => sumN wd (G i))
        rw [show k + (h - k) = h by omega] at this
        exact this.symm
      rw [← ex] at x0 x1
      rw [← ey] at y0 y1
      have txy : (x + y == T) = true := by rw [hxy]; simp
      have wxy : IntKind.i64.wrap (x + y) = x + y := IntWalk.i64_in _ (by omega)
      have HBB : Hid (∀ i, Calls Try.prog 21 #[.slice (some ⟨b, o, none⟩) k c1] (fI i) fun e W' => e = .returned (.int .i64 x) ∧ ∃ j, W' = fI j) := Lib.hid fun i => class_call HCD.out (Nat.le_refl _) i fun hW => by rw [ex]; exact implTotal_yes _ c1 k wd G _ (hTA.below hW) gA
      have HCC : Hid (∀ i, Calls Try.prog 21 #[.slice (some ⟨b, o + k, none⟩) (h - k) (c1 - k)] (fI i) fun e W' => e = .returned (.int .i64 y) ∧ ∃ j, W' = fI j) := Lib.hid fun i => class_call HCD.out (Nat.le_refl _) i fun hW => by rw [ey]; exact implTotal_yes _ (c1 - k) (h - k) wd _ _ (hTB.below hW) gB
      have g1 : (k : Int) ≤ (h : Int) := by omega
      have g2 : (0 : Int) ≤ (k : Int) := by omega
      have g3 : (k : Int) ≤ (c1 : Int) := by omega
      have g4 : (h : Int) ≤ (c1 : Int) := by omega
      clear hTA hTB ex ey hxy k1
      go_wp2_with fail
      refine wp_region_quiet (C := fun W => ∃ i, W = fI i) hmx (by kernel_rfl) Q4.out ?_
      dsimp only
      repeat (first | go_big_quiet_skip | (go_big_quiet_want; go_big_quiet_op; first | go_big_quiet_on | go_big_quiet_call ((first | (with_reducible exact HA.out _) | (with_reducible exact HBB.out _) | (with_reducible exact HCC.out _)))))
      refine wpQuiet_nil ?_
      intro w9 hw9
      have hb9 := (HCD.out _).1 hw9
      clear hw9
      go_wp2_with fail
      go_ret
      exact ⟨rfl, h4.trans (hb9.mono h4.size)⟩
end Go.Proofs.Ytkneddahefhedaa.fnTableTotalParts
