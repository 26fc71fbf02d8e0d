/- TableTurn of the reference. -/
import Derived.Test.YtkneddahefhedaaBlank
import Derived.Test.YtkneddahefhedaaTurnI
import Derived.Test.YtkneddahefhedaaTabValidS
import Derived.StillTailTactics
namespace Go.Proofs.Ytkneddahefhedaa
open Go.RowKit
set_option linter.unusedVariables false
set_option maxHeartbeats 400000 in
theorem specTurn_no (A : Option Addr) (c : Nat) (t : List (List Int)) (w : World) (hx : Tab IntV w A t) (hl : t.length ≤ maxLen) (hv : tabValid t = false) :
    Calls Try.prog 16 #[.slice A t.length c] w fun e w' => ∃ a, e = .returned (.tuple #[.slice a 0 0, .bool false]) ∧ Below w.heap.size w w' := by
  go_enter Try.func16, Try.ntmps16
  go_wp2_with fail
  refine (specTableValid_any A c t _ hx hl).mono ?_
  rintro e w1 ⟨rfl, hq⟩
  go_wp2_with fail
  go_ret2
  exact ⟨_, rfl, hq.below.trans ((Below.refl _ _).alloc hq.below.size _)⟩
set_option maxHeartbeats 1000000 in
theorem specTurn_yes (A : Option Addr) (c h wd : Nat) (G : Nat → Nat → Int) (w : World) (hx : Tab IntV w A (mkT h wd G)) (g : Good h wd G) :
    Calls Try.prog 16 #[.slice A h c] w (GotT IntV 3 w (mkT wd h fun a b => G b a) true) := by
  have h1 := g.h1
  have h4 := g.h4
  have w1 := g.w1
  have w4 := g.w4
  have hc := specTableValid_any A c (mkT h wd G) w hx (by rw [mkT_len]; unfold maxLen; omega)
  rw [mkT_len, g.valid] at hc
  have HC := Lib.hid hc
  clear hc
  obtain ⟨b0, o0, A0, c0, rfl, hb0, hc0, hL0⟩ := hx.mkrow (i := 0) (by omega)
  clear hL0
  simp only [Nat.add_zero] at hc0
  have hmx : Try.prog.follows .mixedOrders = true := by kernel_rfl
  go_enter Try.func16, Try.ntmps16
  go_wp2_with fail
  refine HC.out.mono ?_
  rintro e wq ⟨rfl, hq⟩
  have hcq : wq.cell? ⟨b0, o0, none⟩ = some (.slice A0 wd c0) := (hq.below.cell (p := ⟨b0, o0, none⟩) hb0).trans hc0
  have HQ := Lib.hid hq
  clear hq hc0
  go_wp2_with fail
  refine (l11Blank_any wd h _ (by omega) (by omega)).mono ?_
  rintro e wb ⟨A1, c1, vs, rfl, -, hG, hbb⟩
  obtain ⟨gg, rfl, hO⟩ := Grow.own (A := A1) (c := c1) (by rw [mkT_len]; exact hG) (by rw [mkT_len]; omega)
  have hcap := hG.cap
  rw [mkT_len] at hcap
  have hB1 : Below w.heap.size w wb := HQ.out.below.trans (hbb.mono HQ.out.below.size)
  have hqs := HQ.out.size
  obtain ⟨lo, hlo⟩ : ∃ n, n = wq.heap.size := ⟨_, rfl⟩
  obtain ⟨hi, hhi⟩ : ∃ n, n = wb.heap.size := ⟨_, rfl⟩
  rw [← hlo, ← hhi] at hO
  have hwl : w.heap.size ≤ lo := by omega
  have hlh : lo ≤ hi := by have := hbb.size; omega
  have HO : Hid (OwnT IntV 3 lo hi wb gg vs (mkT wd h (turnF G (cp wd 0 0)))) := Lib.hid (by
    have e : mkT wd h (turnF G (cp wd 0 0)) = mkT wd h fun _ _ => 0 := mkT_ext fun i j _ _ => by simp [turnF, cp]
    rw [e]; exact hO)
  have HB := Lib.hid hB1
  clear hO hG hB1 hbb hqs hlo hhi HQ hcq
  go_wp2_with fail
  go_loopw [5] (fun i wr => ∃ a : Nat, a ≤ h ∧ i = .int .i64 a ∧ Hid (OwnT IntV 3 lo hi wr gg vs (mkT wd h (turnF G (cp wd a 0)))) ∧ Hid (Below w.heap.size w wr)) (fun i _ => h - (intOf i).toNat)
  case atStart => exact ⟨0, Nat.zero_le _, rfl, HO, HB⟩
  case round =>
    clear HO HB
    obtain ⟨i, hi', rfl, HO, HB⟩ := hrel
    obtain ⟨wo, rfl⟩ : ∃ wo : World, wo = wr := ⟨_, rfl⟩
    by_cases hih : i < h
    · go_wp2_with fail
      go_loopw [6] (fun v wr => ∃ m : Nat, m ≤ wd ∧ v = .int .i64 m ∧ Hid (OwnT IntV 3 lo hi wr gg vs (mkT wd h (turnF G (cp wd i m)))) ∧ Hid (Below w.heap.size w wr)) (fun v _ => wd - (intOf v).toNat)
      case atStart => exact ⟨0, Nat.zero_le _, rfl, HO, HB⟩
      case round =>
        clear HO HB
        obtain ⟨j, hj', rfl, HO, HB⟩ := hrel
        obtain ⟨W, rfl⟩ : ∃ W : World, W = wr := ⟨_, rfl⟩
        have g1 : (i : Int) < (h : Int) := by omega
        by_cases hj : j < wd
        · obtain ⟨b, o, b', o', c', hA, hbb, c1', hbb', c2, hc', -⟩ := (hx.below HB.out).mk hih hj
          obtain ⟨rfl, rfl⟩ : b = b0 ∧ o = o0 := by injection hA with hA; injection hA with e1 e2; exact ⟨e1.symm, e2.symm⟩
          obtain ⟨br, cr, hv, r1, r2, r3, c3, c4, f4, -, hset⟩ := HO.out.cell_ hj hih
          obtain ⟨y, hy⟩ : ∃ y, turnF G (cp wd i j) j i = y := ⟨_, rfl⟩
          obtain ⟨z, hz⟩ : ∃ z, G i j = z := ⟨_, rfl⟩
          have hset' := hset z
          rw [hy] at c4
          rw [hz] at c2
          rw [← hz, turnF_up, ← cp_step] at hset'
          rw [hz] at hset'
          have g2 : (j : Int) < (wd : Int) := by omega
          have HO2 := Lib.hid (hset'.below (below_drewN (Below.refl _ _) 1))
          have HB2 : Hid (Below w.heap.size w ((W.setCell ⟨br, i, none⟩ (.int .i64 z)).drewN 1)) := Lib.hid (below_drewN (HB.out.setCell (p := ⟨br, i, none⟩) (by simp; omega) _) 1)
          clear hset hset' hy hz hA hv
          go_wp2_with fail
          go_still_tail 13, hmx
          go_wp2_with fail
          go_roundw
          case rel => exact ⟨j + 1, by omega, by go_num, HO2, HB2⟩
          case measure => simp [intOf]; omega
        · obtain rfl : j = wd := by omega
          obtain ⟨b, o, A', c', hA, hbb, c1', hL⟩ := (hx.below HB.out).mkrow hih
          obtain ⟨rfl, rfl⟩ : b = b0 ∧ o = o0 := by injection hA with hA; injection hA with e1 e2; exact ⟨e1.symm, e2.symm⟩
          have HO2 : Hid (OwnT IntV 3 lo hi W gg vs (mkT j h (turnF G (cp j (i + 1) 0)))) := Lib.hid (by rw [← cp_next]; exact HO.out)
          clear hA hL HO
          go_wp2_with fail
          go_roundw
          case rel => exact ⟨i + 1, by omega, by go_num, HO2, HB⟩
          case measure => simp [intOf]; omega
    · obtain rfl : i = h := by omega
      go_wp2_with fail
      go_ret2
      have hown := HO.out
      rw [turnF_all] at hown
      refine ⟨some ⟨gg, 0, none⟩, c1, by rw [mkT_len]; rfl, by rw [mkT_len]; exact ⟨hcap.1, hcap.2, fun e => by cases e⟩, fun _ => ⟨gg, vs, rfl, ?_⟩, HB.out⟩
      exact hown.wide hwl hown.hin (Nat.le_refl _)
/-- a table that can be read, and a flag -/
def SeeT {α : Type} (f : α → Value) (w : World) (t : List (List α)) (ok : Bool) (e : Ending) (w' : World) : Prop :=
  ∃ A c, e = .returned (.tuple #[.slice A t.length c, .bool ok]) ∧ (t.length ≤ c ∧ c ≤ maxLen) ∧ Tab f w' A t ∧ Below w.heap.size w w'
theorem specTurn_any (A : Option Addr) (c : Nat) (t : List (List Int)) (w : World) (hx : Tab IntV w A t) (hl : t.length ≤ maxLen) :
    Calls Try.prog 16 #[.slice A t.length c] w (SeeT IntV w (turnT t) (tabValid t)) := by
  rcases tab_cases t with hv | ⟨h, wd, G, rfl, g⟩
  · refine (specTurn_no A c t w hx hl hv).mono ?_
    rintro e w' ⟨a, rfl, hb⟩
    rw [turnT_no hv, hv]
    exact ⟨a, 0, rfl, ⟨by simp, by unfold maxLen; omega⟩, Tab.nil_, hb⟩
  · rw [mkT_len, turnT_yes g, g.valid]
    refine (specTurn_yes A c h wd G w hx g).mono ?_
    rintro e w' ⟨A1, c1, rfl, hc1, hh, hb⟩
    exact ⟨A1, c1, rfl, ⟨hc1.1, hc1.2.1⟩, hh.tab, hb⟩
end Go.Proofs.Ytkneddahefhedaa
