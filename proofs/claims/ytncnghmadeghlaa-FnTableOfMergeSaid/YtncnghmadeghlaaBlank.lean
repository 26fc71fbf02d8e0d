/- The contract of l11Blank: a table of zeros, made by appends. -/
import Derived.Test.YtncnghmadeghlaaGrow
import Derived.Test.YtncnghmadeghlaaInfo
namespace Go.Proofs.Ytncnghmadeghlaa
open Go.RowKit
set_option linter.unusedVariables false
/-- a new table that was made by appends -/
def Grown {α : Type} (f : α → Value) (T E : TypeId) (t : List (List α)) (n : Nat) (w : World) (e : Ending) (w' : World) : Prop :=
  ∃ A c vs, e = .returned (.slice A n c) ∧ t.length = n ∧ Grow f T E w.heap.size w' (.slice A n c) vs t ∧ Below w.heap.size w w'
set_option maxHeartbeats 400000 in
theorem l11Blank_any (h wd : Nat) (w : World) (hh : h ≤ 1000) (hw : wd ≤ 1000) :
    Calls Try.prog 45 #[.int .i64 h, .int .i64 wd] w (Grown IntV 42 3 (mkT h wd fun _ _ => 0) h w) := by
  have hmk2 := run_make_row' (P := Try.prog) 42 3 (.int .i64 0) 8 Try.underlying42 nfoI rfl .i64 .i64 wd (by omega) (by omega)
  have hst := Grow.start (f := IntV) w 42 3 (fun _ => undef)
  have HST := Lib.hid hst
  clear hst
  go_enter Try.func45, Try.ntmps45
  go_wp2_with fail
  go_loopw [5, 6] (fun v i wr => ∃ (k : Nat) (A : Option Addr) (c : Nat) (vs : Nat → Value), k ≤ h ∧ i = .int .i64 k ∧ v = .slice A k c ∧ Hid (Grow IntV 42 3 w.heap.size wr (.slice A k c) vs (mkT k wd fun _ _ => 0)) ∧ Hid (Below w.heap.size w wr)) (fun _ i _ => h - (intOf i).toNat)
  case atStart => exact ⟨0, _, _, _, Nat.zero_le _, rfl, rfl, HST, Lib.hid ((Below.refl _ _).alloc (Nat.le_refl _) _)⟩
  case round =>
    obtain ⟨k, A, c, vs, hk, rfl, rfl, HG, HB⟩ := hrel
    obtain ⟨wo, rfl⟩ : ∃ wo : World, wo = wr := ⟨_, rfl⟩
    by_cases hlt : k < h
    · have ho := own_made wo (.int .i64 0) wd 3 (by unfold maxLen; omega)
      have hb1 : Below wo.heap.size wo (wo.alloc (.cells (madeCells #[.int .i64 0] wd) 3)) := (Below.refl _ _).alloc (Nat.le_refl _) _
      have e : List.replicate wd (Value.int .i64 0) = (mkL wd fun _ => (0 : Int)).map IntV := by rw [mkL_map, mkL_rep]
      obtain ⟨w1, hw1⟩ : ∃ w1 : World, w1 = wo.alloc (.cells (madeCells #[.int .i64 0] wd) 3) := ⟨_, rfl⟩
      have hm1 := hmk2 wo
      rw [← hw1] at hb1 hm1 ho
      have ho' : w1.ownsRow wo.heap.size 3 1 (.slice (some ⟨wo.heap.size, 0, none⟩) wd wd) (mkL wd fun _ => (0 : Int)).length ((mkL wd fun _ => (0 : Int)).map IntV) := by rw [mkL_len, ← e]; exact ho
      have hout := (HG.out.below hb1).outer
      rw [mkT_len] at hout
      have hsz : w.heap.size ≤ w1.heap.size := by have := HB.out.size; have := hb1.size; omega
      clear ho e hw1 hmk2
      go_wp2_with (at_builtin; refine appV (.tmp 13) (.tmp 16) _ rfl (by rfl) w1 w.heap.size 42 (.slice none 0 0) 24 Try.underlying24 nfoIS rfl A k c (mkL k vs) (mkL_len _ _) rfl hout (.slice (some ⟨wo.heap.size, 0, none⟩) wd wd) rfl rfl (by omega) (by omega) hsz ?_; intro A' c' w2 ho2 hg2 hn2)
      have hp := HG.out.push hb1 ho' HB.out.size (by rw [mkT_len]; exact ho2) hg2 hn2
      have HP : Hid (Grow IntV 42 3 w.heap.size w2 (.slice A' (k + 1) c') (up1 vs k (.slice (some ⟨wo.heap.size, 0, none⟩) wd wd)) (mkT (k + 1) wd fun _ _ => 0)) := Lib.hid (by
        rw [mkT_len] at hp
        rw [mkT, mkL_succ]
        exact hp)
      have HB2 : Hid (Below w.heap.size w w2) := Lib.hid ((HB.out.trans (hb1.mono HB.out.size)).grown hg2 hsz (fun b e => (hout.lt b e).1))
      clear hp ho2 hg2 hn2 hout ho' hb1
      go_wp2_with fail
      go_roundw
      case rel => exact ⟨k + 1, A', c', _, by omega, by go_num, rfl, HP, HB2⟩
      case measure => simp [intOf]; omega
    · obtain rfl : k = h := by omega
      go_wp2_with fail
      go_ret
      exact ⟨A, c, vs, rfl, mkT_len _ _ _, HG.out, HB.out⟩
end Go.Proofs.Ytncnghmadeghlaa
