/- TableOf of the program. -/
import Derived.Test.YtncnghmadeghlaaTofW
import Derived.Test.YtncnghmadeghlaaEmptyT
import Derived.Test.YtncnghmadeghlaaTailQ
import Derived.Test.YtncnghmadeghlaaBlk
import Derived.IntWalk
namespace Go.Proofs.Ytncnghmadeghlaa
open Go.RowKit Go.BigFrame
set_option linter.unusedVariables false
set_option maxHeartbeats 2000000 in
theorem implTableOf_any (A : Option Addr) (c : Nat) (ps : List Per) (w : World) (hx : SeqP w A ps) (hl : ps.length ≤ 1048576) :
    Calls Try.prog 18 #[.slice A ps.length c] w (GotT IntV 3 w (tofT ps) (peoOk ps)) := by
  have hc := implPeopleValid_any A c ps w hx hl
  have HX := Lib.hid hx
  cases hT : peoOk ps
  · rw [hT] at hc
    have HC := Lib.hid hc
    have HE : Hid (tofT ps = []) := Lib.hid (by rw [tofT, if_neg (by rw [hT]; simp)])
    clear hc hx
    go_enter Try.func18, Try.ntmps18
    go_wp2_with fail
    refine HC.out.mono ?_
    rintro e w1 ⟨rfl, hb⟩
    go_wp2_with fail
    go_ret2
    rw [HE.out]
    exact ⟨none, 0, rfl, ⟨by simp, by unfold maxLen; omega, fun _ => rfl⟩, Hold.nil_, hb⟩
  · rw [hT] at hc
    have HC := Lib.hid hc
    have HT := Lib.hid hT
    have h40 := peoOk_len hT
    have hmx : Try.prog.follows .mixedOrders = true := by kernel_rfl
    clear hc hx hT
    go_enter Try.func18, Try.ntmps18
    go_wp2_with fail
    refine HC.out.mono ?_
    rintro e w1 ⟨rfl, hb1⟩
    have HB1 := Lib.hid hb1
    clear hb1
    go_wp2_with fail
    refine (emptyTable_mk 4 4 w1 (by omega) (by omega)).mono ?_
    rintro e w2 ⟨g, c2, vs, rfl, hcap, ho, hb2⟩
    obtain ⟨hi, hhi⟩ : ∃ hi, hi = w2.heap.size := ⟨_, rfl⟩
    rw [← hhi] at ho
    have HO : Hid (OwnT IntV 3 w.heap.size hi w2 g vs (mkT 4 4 (cntP (ps.take 0)))) := Lib.hid (by
      rw [List.take_zero, cntP_nil]
      exact ho.wide HB1.out.size (Nat.le_refl _) ho.hin)
    have HB : Hid (Below w.heap.size w w2) := Lib.hid (HB1.out.trans (hb2.mono HB1.out.size))
    have HCAP := Lib.hid hcap
    clear ho hb2 HC HB1 hcap hhi
    go_wp2_with fail
    go_loopw [13] (fun i wr => ∃ k : Nat, k ≤ ps.length ∧ i = .int .i64 k ∧ Hid (OwnT IntV 3 w.heap.size hi wr g vs (mkT 4 4 (cntP (ps.take k)))) ∧ Hid (Below w.heap.size w wr)) (fun i _ => ps.length - (intOf i).toNat)
    case atStart => exact ⟨0, Nat.zero_le _, rfl, HO, HB⟩
    case round =>
      clear HO HB
      obtain ⟨k, hk, rfl, HO, HB⟩ := hrel
      obtain ⟨W, rfl⟩ : ∃ W : World, W = wr := ⟨_, rfl⟩
      by_cases hlt : k < ps.length
      · obtain ⟨b, o, ⟨pa, pj, s, y⟩, rfl, hbb, hpk, hc⟩ := (HX.out.below HB.out).at_ hlt
        obtain ⟨c0, c1, cc2, c3⟩ := hc
        dsimp only at c0 c1 cc2 c3
        obtain ⟨a, j, s', ha, hj, -, ha4, hj4, -, -, -⟩ := perOk_at (peoOk_at HT.out hpk)
        dsimp only at ha hj
        subst ha hj
        obtain ⟨W1, hW1⟩ : ∃ W1 : World, W1 = W.alloc (.cells #[.int .i64 a, .int .i64 j, .int .i64 s, .int .i64 y] 40) := ⟨_, rfl⟩
        have hB1 : Below W.heap.size W W1 := by rw [hW1]; exact (Below.refl _ _).alloc (Nat.le_refl _) _
        have hO1 := HO.out.below hB1
        have hin := HO.out.hin
        obtain ⟨br, cr, hv, r1, r2, r3, q1, q2, q3, -, hset⟩ := hO1.cell_ (i := a) (j := j) ha4 hj4
        have hn1 : W1.cell? ⟨W.heap.size, 0, none⟩ = some (.int .i64 a) := by rw [hW1, (Blk.new W _ _).cell]; rfl
        have hn2 : W1.cell? ⟨W.heap.size, 1, none⟩ = some (.int .i64 j) := by rw [hW1, (Blk.new W _ _).cell]; rfl
        have hset' := hset (cntP (ps.take k) a j + 1)
        rw [cntP_snoc (ps.take k) ⟨a, j, s, y⟩ rfl rfl, ← take_snoc' hpk] at hset'
        have hle := cntP_le (ps.take k) a j
        have htl : (ps.take k).length = k := by simp; omega
        rw [htl] at hle
        obtain ⟨v, hve⟩ : ∃ v, cntP (ps.take k) a j = v := ⟨_, rfl⟩
        rw [hve] at hle hset' q2
        simp only [IntV] at q2
        have wv : IntKind.i64.wrap (v + 1) = v + 1 := IntWalk.i64_in _ (by omega)
        have HS : Hid (OwnT IntV 3 w.heap.size hi (W1.setCell ⟨br, j, none⟩ (.int .i64 (v + 1))).drew g vs (mkT 4 4 (cntP (ps.take (k + 1))))) := Lib.hid (hset'.below (below_drewN (Below.refl _ _) 1))
        have HB' : Hid (Below w.heap.size w (W1.setCell ⟨br, j, none⟩ (.int .i64 (v + 1))).drew) := Lib.hid (((HB.out.trans (hB1.mono HB.out.size)).setCell (p := ⟨br, j, none⟩) r1 _).drew)
        have g1 : (a : Int) < 4 := by omega
        have g2 : (j : Int) < 4 := by omega
        have WV := Lib.hid wv
        have HW1 := Lib.hid hW1
        clear hset hset' hve hB1 hO1 hpk wv htl hW1 hv
        go_wp2_with fail
        rw [← HW1.out]
        have wv := WV.out
        refine tail_Q 11 hmx (by kernel_rfl) ?_
        simp only [List.take_succ_cons, List.take_zero, List.drop_succ_cons, List.drop_zero]
        repeat (first | go_big_quiet_skip | (go_big_quiet_want; go_big_quiet_op; go_big_quiet_on))
        refine wpQuiet_nil ?_
        clear wv
        go_wp2_with fail
        go_roundw
        case rel => exact ⟨k + 1, by omega, by go_num, HS, HB'⟩
        case measure => simp [intOf]; omega
      · obtain rfl : k = ps.length := by omega
        have HR : Hid (tofT ps = mkT 4 4 (cntP ps)) := Lib.hid (by rw [tofT, if_pos HT.out])
        have ho := HO.out
        rw [List.take_length] at ho
        have HO2 := Lib.hid (ho.wide (lo' := w.heap.size) (hi' := W.heap.size) (Nat.le_refl _) ho.hin (Nat.le_refl _))
        clear ho
        go_wp2_with fail
        go_ret2
        rw [HR.out]
        exact ⟨some ⟨g, 0, none⟩, c2, by rw [mkT_len]; rfl, by rw [mkT_len]; exact ⟨HCAP.out.1, HCAP.out.2, fun e => by cases e⟩, fun _ => ⟨g, vs, rfl, HO2.out⟩, HB.out⟩
end Go.Proofs.Ytncnghmadeghlaa
