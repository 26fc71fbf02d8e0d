/- cellsOf: the cells of a rectangle are yielded row by row. -/
import Derived.RangeFuncNested
import Derived.RangeFuncBound
import Derived.RangeFuncCalls
import Derived.RangeFuncLeaves
import Derived.RangeFuncBox
import Derived.Shelf.Abstract
import Derived.Shelf.RegionOpen
import Derived.OwnWalkIn
import Derived.TacticsInMore
import Derived.LoopNIn
import Derived.LoopIn
import Derived.Test.YtncnghmadeghlaaInfo
namespace Go.Proofs.Ytncnghmadeghlaa
open Go.RowKit Go.Shelf
set_option linter.unusedVariables false
attribute [local go_sem] Oper.semAt_some

theorem Blk.kept {A B : World} {row : Option Nat} {g : Nat} {t : TypeId} {cs : Array Value} (h : Blk A g t cs) (hg : A.grownBy B row) (hr : ∀ r, row = some r → ∃ o : Obj, A.heap[r]? = some o ∧ o.isCells = false) : Blk B g t cs :=
  h.grown hg fun e => by
    obtain ⟨o, ho, hc⟩ := hr g e.symm
    unfold Blk at h
    rw [h] at ho
    cases ho
    cases hc
/-- the places of a rectangle -/
abbrev Pos (h wd : Nat) : Type := { p : Nat × Nat // p.1 < h ∧ p.2 < wd }
abbrev encP {h wd : Nat} (p : Pos h wd) : Array Value := #[.int .i64 (p.1.1 : Int), .int .i64 (p.1.2 : Int)]
def nn {h wd : Nat} (ps : List (Pos h wd)) : List (Nat × Nat) := ps.map (·.1)
theorem nn_snoc {h wd : Nat} (ps : List (Pos h wd)) (p : Pos h wd) : nn (ps ++ [p]) = nn ps ++ [p.1] := by simp [nn]
theorem nn_len {h wd : Nat} (ps : List (Pos h wd)) : (nn ps).length = ps.length := by simp [nn]

theorem cellsOf_in (F : Fence) (n : Nat) (h1 : F.fn 74) (hro : F.round = none) (a : Option Addr) (len cap : Nat) (w : World) :
    CallsIn F n Try.prog 74 #[.slice a len cap] w fun e w' => e = .returned (.func (.func 88) #[] #[.pointer (some ⟨w.heap.size, 0, none⟩)]) ∧ w' = w.alloc (.cells #[.slice a len cap] 24) := by
  refine callsIn_of_wp Try.func74 rfl h1 ?_ hro
  simp only [Try.ntmps74, List.size_toArray, List.length_cons, List.length_nil, Nat.reduceAdd, Nat.reduceSub, Array.replicate_succ, Array.replicate_zero, List.push_toArray, List.append_toArray, List.nil_append, List.cons_append]
  gi_wp2
  go_ret
  exact ⟨rfl, rfl⟩

set_option maxRecDepth 100000 in
set_option maxHeartbeats 2000000 in
theorem cells1_in (F : Fence) (n : Nat) (h7 : F.fn 88) (hro : F.round = none) (hn : 1 ≤ n) (l Bs h wd : Nat) (G : Nat → Nat → Int) (A : Option Addr) (cap : Nat) (hh : h ≤ 1000) (hw : wd ≤ 1000) (w0 : World) (hT : Tab IntV w0 A (mkT h wd G))
    (J Jx : List (Pos h wd) → World → Prop)
    (hY : ∀ pre x W, J pre W → pre.length < h * wd → YieldAt F (n - 1) Try.prog l (encP x) W fun e W' =>
      (e = .returned (.bool true) ∧ J (pre ++ [x]) W' ∧ Below w0.heap.size W W') ∨ (e = .returned (.bool false) ∧ Jx (pre ++ [x]) W'))
    (W : World) (hBs : W.cell? ⟨Bs, 0, none⟩ = some (.slice A h cap)) (hb : Below w0.heap.size w0 W) (h0 : J [] W) :
    CallsIn F n Try.prog 88 #[.func (.yield l) #[] #[], .pointer (some ⟨Bs, 0, none⟩)] W fun e W' => (∃ v, e = .returned v) ∧
      ((∃ ys, nn ys = cp wd h 0 ∧ J ys W') ∨ (∃ pre, True ∧ Jx pre W')) := by
  refine callsIn_of_wp Try.func88 rfl h7 ?_ hro
  simp only [Try.ntmps88, List.size_toArray, List.length_cons, List.length_nil, Nat.reduceAdd, Nat.reduceSub, Array.replicate_succ, Array.replicate_zero, List.push_toArray, List.append_toArray, List.nil_append, List.cons_append]
  gi_wp2
  gi_loopw [8] (fun i wr => ∃ (k : Nat) (pre : List (Pos h wd)), k ≤ h ∧ i = .int .i64 k ∧ Hid (nn pre = cp wd k 0) ∧ Hid (J pre wr) ∧ Hid (Below w0.heap.size w0 wr)) (fun i _ => h - (intOf i).toNat)
  case atStart => exact ⟨0, [], Nat.zero_le _, rfl, Lib.hid rfl, Lib.hid h0, Lib.hid hb⟩
  case round =>
    obtain ⟨k, pre, hk, rfl, HP, HJ, HB⟩ := hrel
    obtain ⟨wo, rfl⟩ : ∃ wo : World, wo = wr := ⟨_, rfl⟩
    by_cases hlt : k < h
    · obtain ⟨b, o, A', c, rfl, hbb, hc, hL⟩ := (hT.below HB.out).mkrow hlt
      clear hL
      gi_wp2
      gi_loopw [15] (fun i wr => ∃ (m : Nat) (pre : List (Pos h wd)), m ≤ wd ∧ i = .int .i64 m ∧ Hid (nn pre = cp wd k m) ∧ Hid (J pre wr) ∧ Hid (Below w0.heap.size w0 wr)) (fun i _ => wd - (intOf i).toNat)
      case atStart => exact ⟨0, pre, Nat.zero_le _, rfl, HP, HJ, HB⟩
      case round =>
        clear HP HJ HB hc
        obtain ⟨m, pre, hm, rfl, HP, HJ, HB⟩ := hrel
        by_cases hml : m < wd
        · have hlen : pre.length < h * wd := by
            rw [← nn_len, HP.out, cp_len]
            have : (k + 1) * wd ≤ h * wd := Nat.mul_le_mul (by omega) (Nat.le_refl _)
            rw [Nat.add_mul] at this
            omega
          obtain ⟨fn, tmps, assign, body, hy, hR⟩ := hY pre ⟨(k, m), hlt, hml⟩ wr HJ.out hlen
          dsimp only [encP] at hy
          clear hlen
          gi_wp2
          refine hR.mono ?_
          rintro e W3 (⟨rfl, hJ3, hk3⟩ | ⟨rfl, hJx3⟩)
          · have HP3 : Hid (nn (pre ++ [⟨(k, m), hlt, hml⟩]) = cp wd k (m + 1)) := Lib.hid (by rw [nn_snoc, HP.out, cp_step])
            have HJ3 := Lib.hid hJ3
            have HB3 := Lib.hid (HB.out.trans hk3)
            clear hJ3 hk3 hR hy
            gi_wp2
            go_roundw
            case rel => exact ⟨m + 1, _, by omega, by go_num, HP3, HJ3, HB3⟩
            case measure => simp [intOf]; omega
          · gi_wp2
            refine bodyPost_ret (results_none rfl _ _ _) rfl ?_
            exact ⟨⟨_, rfl⟩, .inr ⟨_, trivial, hJx3⟩⟩
        · obtain rfl : m = wd := by omega
          have HP3 : Hid (nn pre = cp m (k + 1) 0) := Lib.hid (by rw [HP.out, cp_next])
          gi_wp2
          go_roundw
          case rel => exact ⟨k + 1, pre, by omega, by go_num, HP3, HJ, HB⟩
          case measure => simp [intOf]; omega
    · obtain rfl : k = h := by omega
      gi_wp2
      go_end0
      exact ⟨⟨_, rfl⟩, .inl ⟨pre, HP.out, HJ.out⟩⟩

theorem cells_stops (F : Fence) (n : Nat) (h7 : F.fn 88) (hro : F.round = none) (hn : 1 ≤ n) (Bs h wd : Nat) (G : Nat → Nat → Int) (A : Option Addr) (cap : Nat) (hh : h ≤ 1000) (hw : wd ≤ 1000) (w0 w : World) (hT : Tab IntV w0 A (mkT h wd G)) (hb : Below w0.heap.size w0 w)
    (hBs : Bs < w.heap.size) (hc : w.cell? ⟨Bs, 0, none⟩ = some (.slice A h cap)) :
    SeqStopsK F n Try.prog 88 #[.pointer (some ⟨Bs, 0, none⟩)] (encP (h := h) (wd := wd)) (Below w0.heap.size) (fun ys => nn ys = cp wd h 0) (fun _ => True) (h * wd) w := fun l J Jx W hW _ _ hY h0 =>
  cells1_in F n h7 hro hn l Bs h wd G A cap hh hw w0 hT J Jx hY W ((hW.cell (p := ⟨Bs, 0, none⟩) hBs).trans hc) (hb.trans (hW.mono hb.size)) h0
end Go.Proofs.Ytncnghmadeghlaa
