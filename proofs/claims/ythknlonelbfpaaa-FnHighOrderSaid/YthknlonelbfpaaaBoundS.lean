/- l13Ok, BoundHigh of the reference: the greatest number of a cell. -/
import Derived.Test.YthknlonelbfpaaaChange
import Derived.Test.YthknlonelbfpaaaCopyT
import Derived.Test.YthknlonelbfpaaaMaskV
import Derived.Deep.LoopGhost
namespace Go.Proofs.Ythknlonelbfpaaa
open Go.RowKit
set_option linter.unusedVariables false
/-- a valid mask is a rectangle of flags -/
theorem mask_cases (t : List (List Int)) (m : List (List Bool)) : maskValid t m = false ∨ ∃ h wd G M, t = mkT h wd G ∧ Good h wd G ∧ m = mkT h wd M := by
  cases hv : maskValid t m
  · exact .inl rfl
  · right
    rcases tab_cases t with ht | ⟨h, wd, G, rfl, gd⟩
    · rw [maskValid_no ht] at hv; cases hv
    · have hl : m.length = h := by
        by_cases e : m.length = (mkT h wd G).length
        · rw [e, mkT_len]
        · rw [maskValid_len e] at hv; cases hv
      rw [maskValid_yes gd.valid (by rw [hl, mkT_len]), mkT_wid _ gd.h1] at hv
      refine ⟨h, wd, G, cel false m, rfl, gd, ?_⟩
      rw [← hl]
      exact rect_mk fun r hr => by
        have := List.all_eq_true.1 hv r hr
        simpa using this
theorem maskValid_mk {h wd : Nat} {G : Nat → Nat → Int} {M : Nat → Nat → Bool} (g : Good h wd G) : maskValid (mkT h wd G) (mkT h wd M) = true := by
  rw [maskValid, g.valid, mkT_len, mkT_len, mkT_wid _ g.h1, decide_eq_true rfl]
  simp only [Bool.true_and, lensOk, List.all_eq_true, decide_eq_true_eq]
  intro r hr
  obtain ⟨i, hi, rfl⟩ := mkT_mem.1 hr
  exact mkL_len _ _
set_option maxHeartbeats 400000 in
theorem l13Ok_no (A B : Option Addr) (c d : Nat) (t : List (List Int)) (m : List (List Bool)) (i j : Int) (w : World) (hx : Tab IntV w A t) (hy : Tab BoolV w B m) (hl : t.length ≤ maxLen) (hm : m.length ≤ maxLen) (hv : maskValid t m = false) :
    Calls Try.prog 22 #[.slice A t.length c, .slice B m.length d, .int .i64 i, .int .i64 j] w fun e w' => e = .returned (.bool false) ∧ Qu w w' := by
  have hc := specMaskValid_any A B c d t m w hx hy hl hm
  rw [hv] at hc
  have HC := Lib.hid hc
  clear hc
  go_enter Try.func22, Try.ntmps22
  go_wp2_with fail
  refine HC.out.mono ?_
  rintro e w1 ⟨rfl, hq⟩
  go_wp2_with fail
  go_ret
  exact ⟨rfl, hq⟩
set_option maxHeartbeats 400000 in
theorem l13Ok_yes (A B : Option Addr) (c d h wd : Nat) (G : Nat → Nat → Int) (M : Nat → Nat → Bool) (i j : Int) (w : World) (hx : Tab IntV w A (mkT h wd G)) (hy : Tab BoolV w B (mkT h wd M)) (gd : Good h wd G) :
    Calls Try.prog 22 #[.slice A h c, .slice B h d, .int .i64 i, .int .i64 j] w fun e w' => e = .returned (.bool (inB i 0 ((h : Int) - 1) && inB j 0 ((wd : Int) - 1))) ∧ Qu w w' := by
  have h1 := gd.h1
  have h4 := gd.h4
  have w1 := gd.w1
  have w4 := gd.w4
  have hc := specMaskValid_any A B c d _ _ w hx hy (by rw [mkT_len]; unfold maxLen; omega) (by rw [mkT_len]; unfold maxLen; omega)
  rw [mkT_len, mkT_len, maskValid_mk gd] at hc
  have HC := Lib.hid hc
  obtain ⟨b, o, A', c', rfl, hbb, k1, -⟩ := hx.mkrow (i := 0) (by omega)
  simp only [Nat.add_zero] at k1
  have g0 : (0 : Int) < (h : Int) := by omega
  have hl1 := l6In_any i 0 ((h : Int) - 1)
  have hl2 := l6In_any j 0 ((wd : Int) - 1)
  obtain ⟨x, hxe⟩ : ∃ x, inB i 0 ((h : Int) - 1) = x := ⟨_, rfl⟩
  obtain ⟨y, hye⟩ : ∃ y, inB j 0 ((wd : Int) - 1) = y := ⟨_, rfl⟩
  rw [hxe] at hl1 ⊢
  rw [hye] at hl2 ⊢
  have HL1 := Lib.hid hl1
  have HL2 := Lib.hid hl2
  clear hc hl1 hl2 hxe hye
  go_enter Try.func22, Try.ntmps22
  go_wp2_with fail
  refine HC.out.mono ?_
  rintro e w1 ⟨rfl, hq⟩
  have k2 := (hq.below.cell (p := ⟨b, o, none⟩) hbb).trans k1
  have HQ := Lib.hid hq
  clear hq k1
  go_wp2_with fail
  refine (HL1.out _).mono ?_
  rintro e w' ⟨rfl, rfl⟩
  cases x
  · go_wp2_with fail
    go_ret
    exact ⟨rfl, HQ.out⟩
  · go_wp2_with fail
    refine (HL2.out _).mono ?_
    rintro e w' ⟨rfl, rfl⟩
    go_wp2_with fail
    go_ret
    exact ⟨rfl, HQ.out⟩
set_option maxHeartbeats 400000 in
theorem specHigh_off (A B : Option Addr) (c d n k : Nat) (i j : Int) (w : World) (hok : Calls Try.prog 22 #[.slice A n c, .slice B k d, .int .i64 i, .int .i64 j] w fun e w' => e = .returned (.bool false) ∧ Qu w w') :
    Calls Try.prog 12 #[.slice A n c, .slice B k d, .int .i64 i, .int .i64 j] w fun e w' => e = .returned (.int .i64 (-1)) ∧ Below w.heap.size w w' := by
  have HC := Lib.hid hok
  clear hok
  go_enter Try.func12, Try.ntmps12
  go_wp2_with fail
  refine HC.out.mono ?_
  rintro e w1 ⟨rfl, hq⟩
  go_wp2_with fail
  go_ret
  exact ⟨rfl, hq.below⟩
set_option maxHeartbeats 2000000 in
theorem specHigh_yes (A B : Option Addr) (c d h wd a b : Nat) (G : Nat → Nat → Int) (M : Nat → Nat → Bool) (w : World) (hx : Tab IntV w A (mkT h wd G)) (hy : Tab BoolV w B (mkT h wd M)) (gd : Good h wd G) (ha : a < h) (hb : b < wd) :
    Calls Try.prog 12 #[.slice A h c, .slice B h d, .int .i64 a, .int .i64 b] w fun e w' => ∃ v, e = .returned (.int .i64 v) ∧ IsHigh h wd G M a b v ∧ Below w.heap.size w w' := by
  have h1 := gd.h1
  have h4 := gd.h4
  have w1 := gd.w1
  have w4 := gd.w4
  have hF : ∀ i j, 0 ≤ G i j ∧ G i j ≤ 99 := fun i j => ⟨gd.lo i j, gd.hi i j⟩
  have hc := l13Ok_yes A B c d h wd G M a b w hx hy gd
  rw [inB_yes (by omega) (by omega), inB_yes (by omega) (by omega)] at hc
  have HC := Lib.hid hc
  have a1 : (a : Int) < (h : Int) := by omega
  have b1 : (b : Int) < (wd : Int) := by omega
  clear hc
  go_enter Try.func12, Try.ntmps12
  go_wp2_with fail
  refine HC.out.mono ?_
  rintro e w1 ⟨rfl, hq⟩
  have hcp := l11Copy_any A c (mkT h wd G) w1 (hx.below hq.below) (by rw [mkT_len]; omega) (fun r hr => by
    obtain ⟨i, hi, rfl⟩ := mkT_mem.1 hr
    rw [mkL_len]; omega)
  rw [mkT_len] at hcp
  have HCP := Lib.hid hcp
  have HY1 := Lib.hid (hy.below hq.below)
  have hb01 := hq.below
  clear hcp hq
  go_wp2_with fail
  refine HCP.out.mono ?_
  rintro e w2 ⟨Ax, cx, vs, rfl, -, hG, hb2⟩
  obtain ⟨g, rfl, hO⟩ := Grow.own (A := Ax) (c := cx) (by rw [mkT_len]; exact hG) (by rw [mkT_len]; omega)
  obtain ⟨lo, hlo⟩ : ∃ n, n = w1.heap.size := ⟨_, rfl⟩
  obtain ⟨hi, hhi⟩ : ∃ n, n = w2.heap.size := ⟨_, rfl⟩
  rw [← hlo, ← hhi] at hO
  have hwl : w.heap.size ≤ lo := by have := hb01.size; omega
  have HO := Lib.hid hO
  have hb02 := hb01.trans (hb2.mono hb01.size)
  have HB2 := Lib.hid hb2
  have HB02 := Lib.hid hb02
  have HLO := Lib.hid hlo
  have HY2 := Lib.hid (HY1.out.below hb2)
  obtain ⟨p, o, p', o', c', rfl, hpp, k1, hpp', k2, -⟩ := HY2.out.mk ha hb
  obtain ⟨m, hm⟩ : ∃ m, M a b = m := ⟨_, rfl⟩
  rw [hm] at k2
  have HM := Lib.hid hm
  have HTOP : Hid (m = false → ∀ Y, FitG h wd G M a b Y → Y a b ≤ G a b) := Lib.hid fun e Y hY => by
    rw [told_shown ha hb (hm.trans e) Y hY]; exact Int.le_refl _
  clear hG hO hb2 hb02 hb01 hhi hm hlo
  go_wp2_with fail
  go_loopg [10] (401 - G a b).toNat (fun gk v wr => ∃ (m : Bool) (X : Nat → Nat → Int), v = .bool m ∧ Hid (m = true → (gk : Int) = 401 - X a b ∧ M a b = true) ∧ Hid (OwnT IntV 3 lo hi wr g vs (mkT h wd X)) ∧ Hid (FitG h wd G M a b X ∧ 0 ≤ X a b) ∧ Hid (m = false → ∀ Y, FitG h wd G M a b Y → Y a b ≤ X a b) ∧ Hid (Turns lo hi w2 wr))
  case atStart =>
    refine ⟨m, G, rfl, Lib.hid fun e => ⟨?_, HM.out.trans e⟩, HO, Lib.hid ⟨fit_self fun i j => gd.lo i j, gd.lo a b⟩, HTOP, Lib.hid (Turns.refl _ _ _)⟩
    have := gd.lo a b
    have := gd.hi a b
    omega
  case round =>
    clear HTOP HO
    obtain ⟨m', X, rfl, HMM, HO3, HFX, HT3, HTR⟩ := hrel
    obtain ⟨wo, rfl⟩ : ∃ wo : World, wo = wr := ⟨_, rfl⟩
    have hsz2 := HB02.out.size
    cases m'
    · obtain ⟨br, cap, -, r1, r2, r3, c3, c4, f4, -, -⟩ := HO3.out.cell_ ha hb
      go_wp2_with fail
      go_ret
      exact ⟨X a b, rfl, ⟨⟨X, HFX.out.1, HFX.out.2, rfl⟩, HT3.out (by first | rfl | trivial)⟩, HB02.out.trans (HTR.out.below hwl hsz2)⟩
    · have hmm := HMM.out rfl
      have HAB := Lib.hid hmm.1
      have HMT := Lib.hid hmm.2
      have hch := l13Change_any (some ⟨p, o, none⟩) cx d h wd a b G X M true lo hi g vs w1 wo HO3.out HY1.out (HB2.out.trans (HTR.out.below (by rw [HLO.out]; exact Nat.le_refl _) HB2.out.size)) (by rw [HLO.out]; exact Nat.le_refl _) hF HFX.out.1 h4 w4 ha hb hmm.2
      have HCH := Lib.hid hch
      have hown := row_all ha hb HFX.out.1
      clear hmm hch hown
      go_wp2_with fail
      refine HCH.out.mono ?_
      rintro e w3 ⟨hT, ⟨rfl, hO4, hr1, -⟩ | ⟨rfl, X', hO4, hF4, hab⟩⟩
      · have hle := fit_own ha hb h4 w4 hF HFX.out.1
        have HO4 := Lib.hid hO4
        have HT4 : Hid (false = false → ∀ Y, FitG h wd G M a b Y → Y a b ≤ X a b) := Lib.hid fun _ => hr1 rfl
        have HTR4 := Lib.hid (HTR.out.trans hT)
        have HM4 : Hid (false = true → ((0 : Nat) : Int) = 401 - X a b ∧ M a b = true) := Lib.hid fun e => by cases e
        have hgk : 0 < gk := by have := HAB.out; omega
        clear hO4 hr1 hT hle
        go_wp2_with fail
        go_roundg 0
        case measure => exact hgk
        case rel => exact ⟨false, X, rfl, Lib.hid (fun e => by cases e), HO4, HFX, Lib.hid (fun _ => HT4.out (by first | rfl | trivial)), HTR4⟩
      · have hle := fit_own ha hb h4 w4 hF hF4
        have HO4 := Lib.hid hO4
        have hab' : X' a b = X a b + 1 := by simpa using hab
        have HFX4 : Hid (FitG h wd G M a b X' ∧ 0 ≤ X' a b) := Lib.hid ⟨hF4, by have := HFX.out.2; omega⟩
        have HT4 : Hid (true = false → ∀ Y, FitG h wd G M a b Y → Y a b ≤ X' a b) := Lib.hid fun e => by cases e
        have HTR4 := Lib.hid (HTR.out.trans hT)
        have HM4 : Hid (true = true → ((gk - 1 : Nat) : Int) = 401 - X' a b ∧ M a b = true) := Lib.hid fun _ => ⟨by have := HAB.out; omega, HMT.out⟩
        have hgk : gk - 1 < gk := by have := HAB.out; omega
        clear hO4 hF4 hT hle hab hab'
        go_wp2_with fail
        go_roundg (gk - 1)
        case measure => exact hgk
        case rel => exact ⟨true, X', rfl, Lib.hid (fun _ => HM4.out (by first | rfl | trivial)), HO4, HFX4, Lib.hid (fun e => by cases e), HTR4⟩
end Go.Proofs.Ythknlonelbfpaaa
