/- TableOf of the reference. -/
import Derived.Test.YtncnghmadeghlaaTofW
import Derived.Test.YtncnghmadeghlaaBlank
import Derived.Test.YtncnghmadeghlaaGridG
import Derived.Test.YtncnghmadeghlaaSeeT
import Derived.Test.YtncnghmadeghlaaTailQ
import Derived.IntWalk
namespace Go.Proofs.Ytncnghmadeghlaa
open Go.RowKit Go.BigFrame
set_option linter.unusedVariables false
set_option maxHeartbeats 2000000 in
theorem specTableOf_any (A : Option Addr) (c : Nat) (ps : List Per) (w : World) (hx : SeqP w A ps) (hl : ps.length ≤ 1048576) :
    Calls Try.prog 16 #[.slice A ps.length c] w (SeeT IntV w (tofT ps) (peoOk ps)) := by
  have hc := specPeopleValid_any A c ps w hx hl
  have HX := Lib.hid hx
  cases hT : peoOk ps
  · rw [hT] at hc
    have HC := Lib.hid hc
    have HE : Hid (tofT ps = []) := Lib.hid (by rw [tofT, if_neg (by rw [hT]; simp)])
    clear hc hx
    go_enter Try.func16, Try.ntmps16
    go_wp2_with fail
    refine HC.out.mono ?_
    rintro e w1 ⟨rfl, hb⟩
    go_wp2_with fail
    go_ret2
    rw [HE.out]
    exact ⟨_, _, rfl, ⟨Nat.le_refl _, by unfold maxLen; simp⟩, Tab.nil_, hb.alloc hb.size _⟩
  · rw [hT] at hc
    have HC := Lib.hid hc
    have HT := Lib.hid hT
    have h40 := peoOk_len hT
    have hmx : Try.prog.follows .mixedOrders = true := by kernel_rfl
    clear hc hx hT
    go_enter Try.func16, Try.ntmps16
    go_wp2_with fail
    refine HC.out.mono ?_
    rintro e w1 ⟨rfl, hb1⟩
    have HB1 := Lib.hid hb1
    clear hb1
    go_wp2_with fail
    refine (l11Blank_any 4 4 w1 (by omega) (by omega)).mono ?_
    rintro e w2 ⟨A4, c4, vs, rfl, -, hgr, hb2⟩
    obtain ⟨g, rfl, -, -, -, -⟩ := hgr.outer_ (j := 0) (by rw [mkT_len]; omega)
    have hcap := hgr.cap
    rw [mkT_len] at hcap
    have HG : Hid (Grow IntV 42 3 w1.heap.size w2 (.slice (some ⟨g, 0, none⟩) 4 c4) vs (mkT 4 4 (cntP (ps.take 0)))) := Lib.hid (by rw [List.take_zero, cntP_nil]; exact hgr)
    have HB : Hid (Below w1.heap.size w1 w2) := Lib.hid hb2
    have HCA := Lib.hid hcap
    clear hgr hb2 HC hcap
    go_wp2_with fail
    go_loopw [5] (fun i wr => ∃ k : Nat, k ≤ ps.length ∧ i = .int .i64 k ∧ Hid (Grow IntV 42 3 w1.heap.size wr (.slice (some ⟨g, 0, none⟩) 4 c4) vs (mkT 4 4 (cntP (ps.take k)))) ∧ Hid (Below w1.heap.size w1 wr)) (fun i _ => ps.length - (intOf i).toNat)
    case atStart => exact ⟨0, Nat.zero_le _, rfl, HG, HB⟩
    case round =>
      clear HG HB
      obtain ⟨k, hk, rfl, HG, HB⟩ := hrel
      obtain ⟨W, rfl⟩ : ∃ W : World, W = wr := ⟨_, rfl⟩
      have hBW : Below w.heap.size w W := HB1.out.trans (HB.out.mono HB1.out.size)
      by_cases hlt : k < ps.length
      · obtain ⟨b, o, ⟨pa, pj, s, y⟩, rfl, hbb, hpk, hc⟩ := (HX.out.below hBW).at_ hlt
        obtain ⟨c0, c1, cc2, c3⟩ := hc
        dsimp only at c0 c1 cc2 c3
        obtain ⟨a, j, s', ha, hj, -, ha4, hj4, -, -, -⟩ := perOk_at (peoOk_at HT.out hpk)
        dsimp only at ha hj
        subst ha hj
        obtain ⟨g1, b1, cp1, e1, hg1, hr1, hn1, x1, x2, x3, hset⟩ := HG.out.cel_ (i := a) (j := j) ha4 hj4
        injection e1 with e1
        injection e1 with e1
        subst e1
        have hset' := hset (cntP (ps.take k) a j + 1)
        rw [cntP_snoc (ps.take k) ⟨a, j, s, y⟩ rfl rfl, ← take_snoc' hpk] at hset'
        have hle := cntP_le (ps.take k) a j
        have htl : (ps.take k).length = k := by simp; omega
        rw [htl] at hle
        obtain ⟨v, hve⟩ : ∃ v, cntP (ps.take k) a j = v := ⟨_, rfl⟩
        rw [hve] at hle hset' x2
        simp only [IntV] at x2
        have wv : IntKind.i64.wrap (v + 1) = v + 1 := IntWalk.i64_in _ (by omega)
        have HS : Hid (Grow IntV 42 3 w1.heap.size (W.setCell ⟨b1, j, none⟩ (.int .i64 (v + 1))).drew (.slice (some ⟨g, 0, none⟩) 4 c4) vs (mkT 4 4 (cntP (ps.take (k + 1))))) := Lib.hid (hset'.below (below_drewN (Below.refl _ _) 1))
        have HB' : Hid (Below w1.heap.size w1 (W.setCell ⟨b1, j, none⟩ (.int .i64 (v + 1))).drew) := Lib.hid ((HB.out.setCell (p := ⟨b1, j, none⟩) hr1.1 _).drew)
        have g1 : (a : Int) < 4 := by omega
        have g2 : (j : Int) < 4 := by omega
        have g3 : (k : Int) < (ps.length : Int) := by omega
        have WV := Lib.hid wv
        clear hset hset' hve hpk wv htl hBW hg1 hr1 hn1
        go_wp2_with fail
        have wv := WV.out
        refine tail_Q 30 hmx (by kernel_rfl) ?_
        simp only [List.take_succ_cons, List.take_zero, List.drop_succ_cons, List.drop_zero]
        repeat (first | go_big_quiet_skip | (go_big_quiet_want; go_big_quiet_op; go_big_quiet_on))
        refine wpQuiet_nil ?_
        clear wv
        go_wp2_with fail
        go_roundw
        case rel => exact ⟨k + 1, by omega, by go_num, HS, HB'⟩
        case measure => simp [intOf]; omega
      · obtain rfl : k = ps.length := by omega
        have HR : Hid (tofT ps = mkT 4 4 (cntP ps)) := Lib.hid (by rw [tofT, if_pos HT.out])
        have ho := HG.out
        rw [List.take_length] at ho
        have HT2 := Lib.hid (ho.tab_ (mkT_len _ _ _))
        have HBW := Lib.hid hBW
        clear ho hBW
        go_wp2_with fail
        go_ret2
        rw [HR.out]
        exact ⟨some ⟨g, 0, none⟩, c4, by rw [mkT_len]; rfl, by rw [mkT_len]; exact HCA.out, HT2.out, HBW.out⟩
end Go.Proofs.Ytncnghmadeghlaa
