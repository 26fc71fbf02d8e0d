/- The walk of the law FnTableSumsRow: for every code it returns true and leaves old memory alone. -/
import Derived.Test.YtkneddahefhedaaSumsA
import Derived.Test.YtkneddahefhedaaSame
import Derived.Test.YtkneddahefhedaaSumOfL
import Derived.Test.YtkneddahefhedaaDTabs
import Derived.Test.YtkneddahefhedaaTurnI
import Derived.OpenShut
import Derived.Deep.RegionLaw
import Derived.Deep.RegionWith
import Derived.IntWalk
import Derived.ShutString
namespace Go.Proofs.Ytkneddahefhedaa.fnTableSumsRow
open Go.RowKit
set_option linter.unusedVariables false


set_option maxHeartbeats 1000000 in
theorem walk (A : Option Addr) (c : Nat) (bs : List Int) (A' : Option Addr) (c' : Nat) (ms : List Int) (w : World) (hx : Seq ByteV w A bs) (hl : bs.length ≤ maxLen) (hc : bs.length ≤ c) (hcm : c ≤ maxLen) (hw : ∀ n ∈ bs, (Lit.int .u8 n).wf = true) (hx' : Seq ByteV w A' ms) (hl' : ms.length ≤ maxLen) (hc' : ms.length ≤ c') (hcm' : c' ≤ maxLen) (hw' : ∀ n ∈ ms, (Lit.int .u8 n).wf = true) :
    Calls Try.prog 8 #[.slice A bs.length c, .slice A' ms.length c'] w (Yes w) := by
  have hby : ∀ b ∈ bs, 0 ≤ b ∧ b ≤ 255 := fun b hb => bounds_u8 (hw b hb)
  have HB := Lib.hid hby
  clear hw hby hw' hx' hc' hcm'
  by_cases hbig : 1048576 < bs.length
  · unfold maxLen at hl hl'
    go_enter Try.func8, Try.ntmps8
    go_wp2
    go_ret
    exact ⟨rfl, Below.refl _ _⟩
  by_cases hbig' : 1048576 < ms.length
  · have hb1 : decide (1048576 < (bs.length : Int)) = false := by simp; omega
    unfold maxLen at hl hl'
    go_enter Try.func8, Try.ntmps8
    go_wp2
    go_ret
    exact ⟨rfl, Below.refl _ _⟩
  have hb1 : decide (1048576 < (bs.length : Int)) = false := by simp; omega
  have hb2 : decide (1048576 < (ms.length : Int)) = false := by simp; omega
  go_enter Try.func8, Try.ntmps8
  go_wp2_with fail
  refine (drawTableSums_any A c bs _ hx hl hc hcm HB.out).mono ?_
  rintro e w1 ⟨A1, c1, t, rfl, hc1, hT, hsh, h1⟩
  clear hx hl hc hcm HB hb1 hb2
  have hl := hsh.wf
  have ht4 := hsh.1
  have HT1 := Lib.hid hT
  clear hT

  rcases tab_cases t with hv | ⟨h, wd, G, rfl, gd⟩
  · have hi := implSums_any A1 c1 t w1 HT1.out hl
    have hs := fun w (hT : Tab IntV w A1 t) => specSums_any A1 c1 t w hT hl
    rw [rowsT_no hv, colsT_no hv, hv] at hi
    simp only [rowsT_no hv, colsT_no hv, hv] at hs
    have HI := Lib.hid hi
    have HS := Lib.hid hs
    clear hi hs
    go_wp2_with fail
    refine HI.out.mono ?_
    rintro e w2 ⟨A2, c2, B2, d2, rfl, -, -, -, hb2⟩
    have h2 := h1.trans (hb2.mono h1.size)
    go_wp2_with fail
    refine (HS.out _ (HT1.out.below hb2)).mono ?_
    rintro e w3 ⟨A3, c3, B3, d3, rfl, -, -, hb3⟩
    have h3 := h2.trans (hb3.mono h2.size)
    have e1 := eqInts_same []
    go_wp2_with fail
    refine (sameInts_any A2 A3 c2 c3 [] [] _ Seq.nil_ Seq.nil_ (by simp)).mono ?_
    rintro e w4 ⟨rfl, hq4⟩
    have h4 := h3.trans (hq4.below.mono h3.size)
    go_wp2_with fail
    refine (sameInts_any B2 B3 d2 d3 [] [] _ Seq.nil_ Seq.nil_ (by simp)).mono ?_
    rintro e w5 ⟨rfl, hq5⟩
    have h5 := h4.trans (hq5.below.mono h4.size)
    go_wp2_with fail
    refine (sameInts_any A2 A3 c2 c3 [] [] _ Seq.nil_ Seq.nil_ (by simp)).mono ?_
    rintro e w6 ⟨rfl, hq6⟩
    have h6 := h5.trans (hq6.below.mono h5.size)
    go_wp2_with fail
    refine (sameInts_any B2 B3 d2 d3 [] [] _ Seq.nil_ Seq.nil_ (by simp)).mono ?_
    rintro e w7 ⟨rfl, hq7⟩
    have h7 := h6.trans (hq7.below.mono h6.size)
    go_wp2_with fail
    go_ret
    exact ⟨rfl, h7⟩
  · have h1' := gd.h1
    have h4' := gd.h4
    have w1' := gd.w1
    have w4' := gd.w4
    rw [mkT_len] at hl hc1 ht4 ⊢
    have hI := implSums_yes A1 c1 h wd G w1 HT1.out gd
    have hS := fun w (hT : Tab IntV w A1 (mkT h wd G)) => specSums_yes A1 c1 h wd G w hT gd
    obtain ⟨xs, exs⟩ : ∃ xs, xs = rowL h wd G := ⟨_, rfl⟩
    obtain ⟨ys, eys⟩ : ∃ ys, ys = colL h wd G := ⟨_, rfl⟩
    rw [← exs, ← eys] at hI
    simp only [← exs, ← eys] at hS
    have lx : xs.length = h := by rw [exs]; exact mkL_len _ _
    have ly : ys.length = wd := by rw [eys]; exact mkL_len _ _
    have HIM : Hid (xs.length ≤ maxLen) := Lib.hid (by rw [lx]; unfold maxLen; omega)
    have HYM : Hid (ys.length ≤ maxLen) := Lib.hid (by rw [ly]; unfold maxLen; omega)
    have HI := Lib.hid hI
    have HS := Lib.hid hS
    have LX := Lib.hid lx
    have LY := Lib.hid ly
    have EX := Lib.hid exs
    have EY := Lib.hid eys
    have hx4 : xs.length ≤ 4 := by omega
    have hy4 : ys.length ≤ 4 := by omega
    have HMX : Hid (∀ x ∈ xs, -1000000 ≤ x ∧ x ≤ 1000000) := Lib.hid fun x hx => by
      rw [EX.out] at hx
      have := rowL_mem (M := 99) (fun i j => ⟨gd.lo i j, gd.hi i j⟩) hx
      omega
    have HMY : Hid (∀ x ∈ ys, -1000000 ≤ x ∧ x ≤ 1000000) := Lib.hid fun x hx => by
      rw [EY.out] at hx
      have := colL_mem (M := 99) (fun i j => ⟨gd.lo i j, gd.hi i j⟩) hx
      omega
    have e1 := eqInts_same xs
    have e2 := eqInts_same ys
    clear hI hS lx ly exs eys
    go_wp2_with fail
    refine HI.out.mono ?_
    rintro e w2 ⟨A2, c2, B2, d2, rfl, o1, o2, hne2, hb2⟩
    have h2 := h1.trans (hb2.mono h1.size)
    have HT2 := Lib.hid (HT1.out.below hb2)
    have HX2 := Lib.hid (Lst.of_own o1)
    have HY2 := Lib.hid (Lst.of_own o2)
    clear HT1 hne2 o1 o2
    go_wp2_with fail
    refine (HS.out _ HT2.out).mono ?_
    rintro e w3 ⟨A3, c3, B3, d3, rfl, o3, o4, -, hb3⟩
    have h3 := h2.trans (hb3.mono h2.size)
    have HT3 := Lib.hid (HT2.out.below hb3)
    have HX3 := Lib.hid (HX2.out.below hb3)
    have HY3 := Lib.hid (HY2.out.below hb3)
    have HU3 := Lib.hid (Lst.of_own o3)
    have HV3 := Lib.hid (Lst.of_own o4)
    clear HT2 HX2 HY2 o3 o4
    go_wp2_with fail
    refine (sameInts_any A2 A3 c2 c3 xs xs _ HX3.out.1 HU3.out.1 HIM.out).mono ?_
    rintro e w4 ⟨rfl, hq4⟩
    go_wp2_with fail
    refine (sameInts_any B2 B3 d2 d3 ys ys _ (HY3.out.below hq4.below).1 (HV3.out.below hq4.below).1 HYM.out).mono ?_
    rintro e w5 ⟨rfl, hq5⟩
    have q5 := hq4.trans hq5
    have h5 := h3.trans (q5.below.mono h3.size)
    have HT5 := Lib.hid (HT3.out.below q5.below)
    have HX5 := Lib.hid (HX3.out.below q5.below)
    have HY5 := Lib.hid (HY3.out.below q5.below)
    clear HT3 HX3 HY3 HU3 HV3 hq4 hq5 q5

    obtain ⟨k, hk, hk1⟩ : ∃ k : Nat, (ms.length : Int) % (h : Int) = (k : Int) ∧ k < h := ⟨ms.length % h, by simp, Nat.mod_lt _ (by omega)⟩
    go_wp2_with fail
    rw [hk]
    clear hk
    refine (implTurn_yes A1 c1 h wd G _ HT5.out gd).mono ?_
    rintro e w6 ⟨A6, c6, rfl, hc6, hh6, hb6⟩
    rw [mkT_len] at hc6 ⊢
    have h6 := h5.trans (hb6.mono h5.size)
    have HT6 := Lib.hid (HT5.out.below hb6)
    have HX6 := Lib.hid (HX5.out.below hb6)
    have HY6 := Lib.hid (HY5.out.below hb6)
    have HU6 := Lib.hid hh6.tab
    have hI := implSums_yes A6 c6 wd h (fun a b => G b a) w6 HU6.out gd.turn
    rw [show rowL wd h (fun a b => G b a) = ys from EY.out.symm, show colL wd h (fun a b => G b a) = xs from EX.out.symm] at hI
    have HI6 := Lib.hid hI
    clear HT5 HX5 HY5 hh6 hI
    go_wp2_with fail
    refine HI6.out.mono ?_
    rintro e w7 ⟨A7, c7, B7, d7, rfl, o7, o8, -, hb7⟩
    have h7 := h6.trans (hb7.mono h6.size)
    have HX7 := Lib.hid (HX6.out.below hb7)
    have HY7 := Lib.hid (HY6.out.below hb7)
    have HR7 := Lib.hid (Lst.of_own o7)
    have HC7 := Lib.hid (Lst.of_own o8)
    obtain ⟨b, o, A', c', rfl, hbb, k1, hL⟩ := (HT6.out.below hb7).mkrow hk1
    obtain ⟨d, p, x, rfl, hdd, hxk, k2⟩ := HX7.out.1.at_ (k := k) (by rw [LX.out]; exact hk1)
    have hxv : x = sumN wd (G k) := by
      rw [EX.out, rowL, mkL_get _ hk1] at hxk
      injection hxk with hxk
      exact hxk.symm
    have hsum : (mkL wd (G k)).sum = x := by rw [hxv]; exact sum_mkL _ _
    have hSO := sumOf_any A' c' (mkL wd (G k)) w7 hL (by rw [mkL_len]; omega) (fun z hz => by
      obtain ⟨j, hj, rfl⟩ := mkL_mem.1 hz
      have := gd.lo k j; have := gd.hi k j; omega)
    rw [hsum, mkL_len] at hSO
    have HSO := Lib.hid hSO
    have tt : (x == x) = true := by simp
    have g1 : (k : Int) < (h : Int) := by omega
    have g2 : (k : Int) < (xs.length : Int) := by have := LX.out; omega
    have g3 : k < xs.length := by have := LX.out; omega
    have hc1' : ∀ m : Nat, Calls Try.prog 37 #[.slice A' wd c'] (w7.drewN m) fun e w' => e = .returned (.int .i64 x) ∧ ∃ n, w' = (w7.drewN m).drewN n := fun m => by
      have := sumOf_any A' c' (mkL wd (G k)) (w7.drewN m) (hL.below (below_drewN (Below.refl _ _) m)) (by rw [mkL_len]; omega) (fun z hz => by
        obtain ⟨j, hj, rfl⟩ := mkL_mem.1 hz
        have := gd.lo k j; have := gd.hi k j; omega)
      rw [hsum, mkL_len] at this
      exact this.mono fun e w' ⟨h1, h2⟩ => ⟨h1, 0, by rw [← h2]; rfl⟩
    have hc2' : ∀ m : Nat, Calls Try.prog 36 #[.slice A7 ys.length c7, .slice B2 ys.length d2] (w7.drewN m) fun e w' => e = .returned (.bool (eqInts ys ys)) ∧ ∃ n, w' = (w7.drewN m).drewN n := fun m =>
      (sameInts_any A7 B2 c7 d2 ys ys (w7.drewN m) (HR7.out.1.drewN m) (HY7.out.1.drewN m) HYM.out).mono fun e w' ⟨h1, n, h2⟩ => ⟨h1, n, h2⟩
    have hc3' : ∀ m : Nat, Calls Try.prog 36 #[.slice B7 xs.length d7, .slice (some ⟨d, p, none⟩) xs.length c2] (w7.drewN m) fun e w' => e = .returned (.bool (eqInts xs xs)) ∧ ∃ n, w' = (w7.drewN m).drewN n := fun m =>
      (sameInts_any B7 _ d7 c2 xs xs (w7.drewN m) (HC7.out.1.drewN m) (HX7.out.1.drewN m) HIM.out).mono fun e w' ⟨h1, n, h2⟩ => ⟨h1, n, h2⟩
    rw [e1] at hc3'
    rw [e2] at hc2'
    have HC1 := Lib.hid hc1'
    have HC2 := Lib.hid hc2'
    have HC3 := Lib.hid hc3'
    clear o7 o8 hSO hsum hxv hxk hL HX6 HY6 HU6 HI6 HI HS hc1' hc2' hc3' HSO
    go_wp2_with fail
    go_quiet ((first | (go_at_call 37; exact Calls.quiet_of (HC1.out _)) | (go_at_call 36; with_reducible exact Calls.quiet_of (HC2.out _)) | (go_at_call 36; with_reducible exact Calls.quiet_of (HC3.out _))))
    go_wp2_with fail
    go_ret
    exact ⟨rfl, below_drewN h7 _⟩
end Go.Proofs.Ytkneddahefhedaa.fnTableSumsRow
