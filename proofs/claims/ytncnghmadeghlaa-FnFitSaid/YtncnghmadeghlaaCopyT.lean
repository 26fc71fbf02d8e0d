/- l11Copy: a table in new memory. -/
import Derived.Test.YtncnghmadeghlaaBlank
import Derived.Test.YtncnghmadeghlaaInfo
namespace Go.Proofs.Ytncnghmadeghlaa
open Go.RowKit
set_option linter.unusedVariables false
set_option maxHeartbeats 1000000 in
theorem l11Copy_any (A : Option Addr) (c : Nat) (t : List (List Int)) (w : World) (hx : Tab IntV w A t) (ht : t.length ≤ 1000) (hr : ∀ r ∈ t, r.length ≤ 1000) :
    Calls Try.prog 56 #[.slice A t.length c] w (Grown IntV 42 3 t t.length w) := by
  have HST := Lib.hid (Grow.start (f := IntV) w 42 3 (fun _ => undef))
  have HR := Lib.hid hr
  clear hr
  go_enter Try.func56, Try.ntmps56
  go_wp2_with fail
  go_loopw [3, 4] (fun v i wr => ∃ (k : Nat) (A : Option Addr) (c : Nat) (vs : Nat → Value), k ≤ t.length ∧ i = .int .i64 k ∧ v = .slice A k c ∧ Hid (Grow IntV 42 3 w.heap.size wr (.slice A k c) vs (t.take k)) ∧ Hid (Below w.heap.size w wr)) (fun _ i _ => t.length - (intOf i).toNat)
  case atStart => exact ⟨0, _, _, _, Nat.zero_le _, rfl, rfl, HST, Lib.hid ((Below.refl _ _).alloc (Nat.le_refl _) _)⟩
  case round =>
    obtain ⟨k, Ao, co, vs, hk, rfl, rfl, HG, HB⟩ := hrel
    obtain ⟨wo, rfl⟩ : ∃ wo : World, wo = wr := ⟨_, rfl⟩
    by_cases hlt : k < t.length
    · obtain ⟨b, o, r, Ar, cr, rfl, hbb, hrk, k1, hL⟩ := (hx.below HB.out).at_ hlt
      have hrl := HR.out r (List.mem_of_getElem? hrk)
      have HL := Lib.hid hL
      have HRK := Lib.hid hrk
      clear hL hrk
      go_wp2_with (at_builtin; refine appFresh (f := IntV) (.tmp 13) (.tmp 17) _ rfl (by rfl) wo 3 (.int .i64 0) 8 Try.underlying42 nfoI rfl rfl Ar r.length cr r rfl rfl HL.out (fun _ => rfl) (by omega) (by omega) ?_)
      intro A2 c2 zs w1 hz ho1 hb1
      obtain rfl := hz.out
      have hs1 := hb1.size
      have hout := (HG.out.below hb1).outer
      have htk : (t.take k).length = k := by simp; omega
      rw [htk] at hout
      have hsz : w.heap.size ≤ w1.heap.size := Nat.le_trans HB.out.size hs1
      go_wp2_with (at_builtin; refine appV (.tmp 12) (.tmp 19) _ rfl (by rfl) w1 w.heap.size 42 (.slice none 0 0) 24 Try.underlying24 nfoIS rfl Ao k co (mkL k vs) (mkL_len _ _) rfl hout (.slice A2 zs.length c2) rfl rfl (by omega) (by omega) hsz ?_)
      intro A' c' w2 ho2 hg2 hn2
      have hp := HG.out.push hb1 ho1 HB.out.size (by rw [htk]; exact ho2) hg2 hn2
      have HP : Hid (Grow IntV 42 3 w.heap.size w2 (.slice A' (k + 1) c') (up1 vs k (.slice A2 zs.length c2)) (t.take (k + 1))) := Lib.hid (by
        rw [htk] at hp
        rw [take_snoc' HRK.out]
        exact hp)
      have HB2 : Hid (Below w.heap.size w w2) := Lib.hid ((HB.out.trans (hb1.mono HB.out.size)).grown hg2 hsz (fun b e => (hout.lt b e).1))
      clear hp ho2 hg2 hn2 hout ho1 hb1 hz htk
      go_wp2_with fail
      go_roundw
      case rel => exact ⟨k + 1, A', c', _, by omega, by go_num, rfl, HP, HB2⟩
      case measure => simp [intOf]; omega
    · obtain rfl : k = t.length := by omega
      go_wp2_with fail
      go_ret
      have hG := HG.out
      rw [List.take_length] at hG
      exact ⟨Ao, co, vs, rfl, rfl, hG, HB.out⟩
end Go.Proofs.Ytncnghmadeghlaa
