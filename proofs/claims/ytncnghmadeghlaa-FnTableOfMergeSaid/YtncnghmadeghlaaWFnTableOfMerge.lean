/- The walk of the law FnTableOfMerge: for every code it returns true and leaves old memory alone. -/
import Derived.Test.YtncnghmadeghlaaTofI
import Derived.Test.YtncnghmadeghlaaTofS
import Derived.Test.YtncnghmadeghlaaTofL
import Derived.Test.YtncnghmadeghlaaDTof
import Derived.Test.YtncnghmadeghlaaSame
import Derived.Test.YtncnghmadeghlaaTotalI
import Derived.Test.YtncnghmadeghlaaStepQ
import Derived.Test.YtncnghmadeghlaaMergeW
import Derived.Test.YtncnghmadeghlaaFoldI
import Derived.Test.YtncnghmadeghlaaRowsV
import Derived.Test.YtncnghmadeghlaaSumOfL
import Derived.OpenShut
import Derived.Deep.RegionLaw
import Derived.Deep.RegionWith
import Derived.IntWalk
import Derived.ShutString
import Derived.BigQuiet
namespace Go.Proofs.Ytncnghmadeghlaa.fnTableOfMerge
open Go.RowKit
set_option linter.unusedVariables false


set_option maxRecDepth 100000 in
set_option maxHeartbeats 4000000 in
theorem walk (A : Option Addr) (c : Nat) (bs : List Int) (w : World) (hx : Seq ByteV w A bs) (hl : bs.length ≤ maxLen) (hc : bs.length ≤ c) (hcm : c ≤ maxLen) (hw : ∀ n ∈ bs, (Lit.int .u8 n).wf = true) :
    Calls Try.prog 7 #[.slice A bs.length c] w (Yes w) := by
  have hby : ∀ b ∈ bs, 0 ≤ b ∧ b ≤ 255 := fun b hb => bounds_u8 (hw b hb)
  have HB := Lib.hid hby
  clear hw hby
  by_cases hbig : 1048576 < bs.length
  · unfold maxLen at hl
    go_enter Try.func7, Try.ntmps7
    go_wp2
    go_ret
    exact ⟨rfl, Below.refl _ _⟩
  have hb1 : decide (1048576 < (bs.length : Int)) = false := by simp; omega
  go_enter Try.func7, Try.ntmps7
  go_wp2_with fail
  refine (drawTableOf_any A c bs _ hx hl hc hcm HB.out).mono ?_
  rintro e w1 ⟨A1, c1, ps, rfl, hlen, ho, h1⟩
  clear hx hl hc hcm HB hb1
  have hl : ps.length ≤ 1048576 := by omega
  have HP1 := Lib.hid ho.seq
  have HN1 : Hid (A1 = none → c1 = 0) := Lib.hid (by
    rintro rfl
    rcases ho.1.2 with ⟨e, -⟩ | ⟨g, cap, cur, e, -⟩
    · injection e
    · injection e with e; cases e)
  clear ho
  by_cases hok : peoOk ps = false
  · have hi := implTableOf_any A1 c1 ps w1 HP1.out hl
    have hs := fun w (hT : SeqP w A1 ps) => specTableOf_any A1 c1 ps w hT hl
    obtain ⟨R, hR⟩ : ∃ R, tofT ps = R := ⟨_, rfl⟩
    have hRm : R.length ≤ maxLen := by rw [← hR, tofT, if_neg (by rw [hok]; simp)]; simp
    rw [hR, hok] at hi
    simp only [hR, hok] at hs
    have HI := Lib.hid hi
    have HS := Lib.hid hs
    have eRR := eqT_same R
    clear hi hs hR hok hlen hl
    go_wp2_with fail
    refine HI.out.mono ?_
    rintro e w2 ⟨A2, c2, rfl, -, hR2, hb2⟩
    have h2 := h1.trans (hb2.mono h1.size)
    have HR2 := Lib.hid hR2.tab
    clear hR2
    go_wp2_with fail
    refine (HS.out _ (HP1.out.below hb2)).mono ?_
    rintro e w3 ⟨A3, c3, rfl, -, hR3, hb3⟩
    have h3 := h2.trans (hb3.mono h2.size)
    have HR3 := Lib.hid hR3
    have HR2' := Lib.hid (HR2.out.below hb3)
    clear hR3
    go_wp2_with fail
    refine (sameRows_any A2 A3 c2 c3 R R _ HR2'.out HR3.out hRm).mono ?_
    rintro e w4 ⟨rfl, q4⟩
    have h4 := h3.trans (q4.below.mono h3.size)
    have HR24 := Lib.hid (HR2'.out.below q4.below)
    have HR34 := Lib.hid (HR3.out.below q4.below)
    clear q4
    go_wp2_with fail
    refine (sameRows_any A2 A3 c2 c3 R R _ HR24.out HR34.out hRm).mono ?_
    rintro e w5 ⟨rfl, q5⟩
    have h5 := h4.trans (q5.below.mono h4.size)
    clear q5
    go_wp2_with fail
    go_ret
    exact ⟨rfl, h5⟩
  · have hok : peoOk ps = true := by simpa using hok
    have hR : tofT ps = mkT 4 4 (cntP ps) := by rw [tofT, if_pos hok]
    have hi := implTableOf_any A1 c1 ps w1 HP1.out hl
    have hs := fun w (hT : SeqP w A1 ps) => specTableOf_any A1 c1 ps w hT hl
    rw [hR, hok] at hi
    simp only [hR, hok] at hs
    have HI := Lib.hid hi
    have HS := Lib.hid hs
    have HOK := Lib.hid hok
    have HGD := Lib.hid (cnt_good hok)
    have eRR := eqT_same (mkT 4 4 (cntP ps))
    have hsr := fun (A B : Option Addr) (c d : Nat) (W : World) (hx : Tab IntV W A (mkT 4 4 (cntP ps))) (hy : Tab IntV W B (mkT 4 4 (cntP ps))) => sameRows_any A B c d _ _ W hx hy (by rw [mkT_len]; unfold maxLen; omega)
    simp only [mkT_len, eRR] at hsr
    have HSR := Lib.hid hsr
    clear hi hs hR hok eRR hsr
    go_wp2_with fail
    refine HI.out.mono ?_
    rintro e w2 ⟨A2, c2, rfl, -, hR2, hb2⟩
    rw [mkT_len]
    have h2 := h1.trans (hb2.mono h1.size)
    have HR2 := Lib.hid hR2.tab
    clear hR2
    go_wp2_with fail
    refine (HS.out _ (HP1.out.below hb2)).mono ?_
    rintro e w3 ⟨A3, c3, rfl, -, hR3, hb3⟩
    rw [mkT_len]
    have h3 := h2.trans (hb3.mono h2.size)
    have HR3 := Lib.hid hR3
    have HR2' := Lib.hid (HR2.out.below hb3)
    have hb13 := hb2.trans (hb3.mono hb2.size)
    clear hR3
    go_wp2_with fail
    refine (HSR.out A2 A3 c2 c3 _ HR2'.out HR3.out).mono ?_
    rintro e w4 ⟨rfl, q4⟩
    have h4 := h3.trans (q4.below.mono h3.size)
    have HO4 := Lib.hid (HR2'.out.below q4.below)
    have HP4 := Lib.hid (HP1.out.below (hb13.trans (q4.below.mono hb13.size)))
    clear q4 hb2 hb3 hb13 HR2 HR3 HR2' HSR HI HS HP1 h1 h2 h3

    have hlen := hlen
    obtain ⟨W0, hW0⟩ : ∃ W0 : World, W0 = w4 := ⟨_, rfl⟩
    have H4 := Lib.hid h4
    clear h4 hW0 W0
    go_wp2_with (at_builtin; refine appP (.tmp 50) (.tmp 51) _ rfl (by rfl) (w4.alloc (.cells #[] 40)) w4.heap.size Try.underlying27 (some ⟨w4.heap.size, 0, none⟩) 0 0 [] rfl (ownP_nil w4) A1 ps.length c1 ps rfl rfl (HP4.out.below ((Below.refl _ _).alloc (Nat.le_refl _) _)) HN1.out (by omega) (by omega) (by simp) ?_; intro A8 c8 w8 ho8 hg8 hn8)
    simp only [Nat.zero_add, List.nil_append] at ho8 hn8 ⊢
    have hb8 : Below w4.heap.size w4 w8 := (by (refine Below.grown ?_ hg8 ?_ ?_ <;> first | (intro k e; simp [Value.ownBlock] at e; omega) | exact (Below.refl _ _).alloc (Nat.le_refl _) _ | (simp; done) | (simp; omega)))
    have HQ8 : Hid (OwnP w8 w4.heap.size A8 ps.length c8 (mgK ps 0)) := Lib.hid (by rw [mgK_zero]; exact ho8)
    have HB8 := Lib.hid hb8
    clear ho8 hg8 hn8 hb8
    go_wp2_with fail
    go_loopw [9] (fun i wr => ∃ k : Nat, k ≤ ps.length ∧ i = .int .i64 k ∧ Hid (OwnP wr w4.heap.size A8 ps.length c8 (mgK ps k)) ∧ Hid (Below w4.heap.size w4 wr)) (fun i _ => ps.length - (intOf i).toNat)
    case atStart => exact ⟨0, Nat.zero_le _, rfl, HQ8, HB8⟩
    case round =>
      clear HQ8 HB8
      obtain ⟨k, hk, rfl, HO, HB⟩ := hrel
      obtain ⟨W, rfl⟩ : ∃ W : World, W = wr := ⟨_, rfl⟩
      by_cases hlt : k < ps.length
      · obtain ⟨g, ⟨pa, pj, s, y⟩, rfl, hlo, hhi, hpk, c0, -, -, -⟩ := HO.out.at_ hlt
        have hpk' := hpk
        rw [mgK_at (by omega)] at hpk
        dsimp only at c0
        have g1 : (k : Int) < (ps.length : Int) := by omega
        by_cases h1 : pa = 1
        · subst h1
          obtain ⟨fr, ho⟩ := HO.out.area hpk' 0
          have hst := mgK_step hpk
          rw [mgP_one] at hst
          rw [show ({ (⟨1, pj, s, y⟩ : Per) with area := 0 } : Per) = ⟨0, pj, s, y⟩ from rfl, hst] at ho
          have HS := Lib.hid ho
          have HB' : Hid (Below w4.heap.size w4 (W.setCell ⟨g, k * 4, none⟩ (.int .i64 0))) := Lib.hid (HB.out.setCell (p := ⟨g, k * 4, none⟩) hlo _)
          clear ho hst hpk hpk' hlo
          go_wp2_with fail
          go_roundw
          case rel => exact ⟨k + 1, by omega, by go_num, HS, HB'⟩
          case measure => simp [intOf]; omega
        · have h1' : (pa == 1) = false := beq_eq_false_iff_ne.2 h1
          have hst := mgK_stay hpk h1
          have HS : Hid (OwnP W w4.heap.size (some ⟨g, 0, none⟩) ps.length c8 (mgK ps (k + 1))) := Lib.hid (by rw [hst]; exact HO.out)
          clear hst hpk hpk' hlo h1
          go_wp2_with fail
          go_roundw
          case rel => exact ⟨k + 1, by omega, by go_num, HS, HB⟩
          case measure => simp [intOf]; omega
      · obtain rfl : k = ps.length := by omega
        have hq : OwnP W w4.heap.size A8 ps.length c8 (ps.map mgP) := by rw [← mgK_all]; exact HO.out
        have hF := implFold_any A2 c2 (mkT 4 4 (cntP ps)) 0 1 W (HO4.out.below HB.out) (by rw [mkT_len]; unfold maxLen; omega)
        rw [mg_foldOk HOK.out, mg_foldT HOK.out] at hF
        have hmok := mg_ok HOK.out
        have hql : (ps.map mgP).length = ps.length := by simp
        have hone := mg_one ps
        obtain ⟨qs, eqs⟩ : ∃ qs, ps.map mgP = qs := ⟨_, rfl⟩
        rw [eqs] at hq hF hmok hql hone
        rw [mkT_len] at hF
        have hT := fun W' (h : SeqP W' A8 qs) => implTableOf_any A8 c8 qs W' h (by omega)
        have hof : tofT qs = mkT 4 4 (cntP qs) := by rw [tofT, if_pos hmok]
        simp only [hof, hmok, hql] at hT
        have HF := Lib.hid hF
        have HT := Lib.hid hT
        have HS := Lib.hid hq.seq
        have HW : Hid (Below w.heap.size w W) := Lib.hid (H4.out.trans (HB.out.mono H4.out.size))
        have HONE := Lib.hid hone
        clear hq hF hT hmok hone eqs hof hql HO HB HO4 HP4 H4 HOK HGD HN1
        go_wp2_with fail
        refine HF.out.mono ?_
        rintro e w5 ⟨A5, c5, rfl, hc5, hh5, hb5⟩
        rw [mkT_len] at hc5 ⊢
        have HY5 := Lib.hid hh5.tab
        have HS5 := Lib.hid (HS.out.below hb5)
        have HW5 : Hid (Below w.heap.size w w5) := Lib.hid (HW.out.trans (hb5.mono HW.out.size))
        clear hh5 hb5 HS HW HF
        go_wp2_with fail
        refine (HT.out _ HS5.out).mono ?_
        rintro e w6 ⟨A6, c6, rfl, hc6, hh6, hb6⟩
        rw [mkT_len] at hc6 ⊢
        have HY6 := Lib.hid (HY5.out.below hb6)
        have HW6 : Hid (Below w.heap.size w w6) := Lib.hid (HW5.out.trans (hb6.mono HW5.out.size))
        obtain ⟨g, vs, rfl, ho6⟩ := hh6 (by rw [mkT_len]; omega)
        have hg6 : g < w6.heap.size := Nat.lt_of_lt_of_le ho6.gin.2 ho6.hin
        obtain ⟨us, hru, hsu⟩ := ho6.tab.rows
        have hul : us.length = 4 := by rw [hru.1, mkT_len]
        obtain ⟨⟨a0, n0, k0⟩, ⟨a1, n1, k1⟩, u2, u3, rfl⟩ : ∃ u0 u1 u2 u3, us = [u0, u1, u2, u3] := by
          rcases us with _ | ⟨u0, _ | ⟨u1, _ | ⟨u2, _ | ⟨u3, _ | ⟨u4, t⟩⟩⟩⟩⟩ <;> simp at hul
          exact ⟨u0, u1, u2, u3, rfl⟩
        obtain ⟨n0e, -⟩ := hru.2 0 _ _ (mkT_get _ (by omega)) rfl
        obtain ⟨n1e, hl1⟩ := hru.2 1 _ _ (mkT_get _ (by omega)) rfl
        rw [mkL_len] at n0e n1e
        dsimp only at n0e n1e hl1
        subst n0e n1e
        obtain ⟨b, o, e, -, hcs⟩ := hsu (by simp)
        injection e with e
        injection e with e1 e2
        subst e1 e2
        have r0 := hcs 0 _ rfl
        have r1 := hcs 1 _ rfl
        simp only [Nat.zero_add] at r0 r1
        simp only [RowV] at r0 r1
        have HLU : Hid (Lst RowV w6 (some ⟨g, 2, none⟩) (c6 - 2) [u2, u3]) := Lib.hid (by
          have h1 := (hsu.lst (c := c6) (by simp) (by simpa using hc6.1) hc6.2.1).drop (k := 2) (by simp)
          rw [if_neg (by omega)] at h1
          exact h1)
        have HRU : Hid (RowsAre IntV w6 ([⟨a0, 4, k0⟩] ++ [u2, u3]) (mkT 3 4 (fun i => cntP qs (skp 1 i)))) := Lib.hid (by
          have h1 := (hru.take 1).append (hru.drop (1 + 1))
          rw [mkT_skip (cntP qs) (show 1 < 4 by omega)] at h1
          exact h1)
        have HSUM : Hid (∀ W', Below w6.heap.size w6 W' → Calls Try.prog 33 #[.slice a1 4 k1] W' fun e w' => e = .returned (.int .i64 0) ∧ W' = w') := Lib.hid fun W' hb => by
          have hz : mkL 4 (cntP qs 1) = [0, 0, 0, 0] := by
            rw [mkL_ext (g := fun _ => (0 : Int)) fun j _ => HONE.out j]; rfl
          rw [hz] at hl1
          exact sumOf_any a1 k1 [0, 0, 0, 0] W' (hl1.below hb) (by simp) (by simp)
        have hsr := fun (A B : Option Addr) (c d : Nat) (W : World) (hx : Tab IntV W A (mkT 3 4 (fun i => cntP qs (skp 1 i)))) (hy : Tab IntV W B (mkT 3 4 (fun i => cntP qs (skp 1 i)))) => sameRows_any A B c d _ _ W hx hy (by rw [mkT_len]; unfold maxLen; omega)
        simp only [mkT_len, eqT_same] at hsr
        have HSR := Lib.hid hsr
        have k2 : (4 : Int) ≤ (c6 : Int) := by omega
        have k3 : ¬ c6 = 2 := by omega
        have k4 : (2 : Int) ≤ (c6 : Int) := by omega
        have hcm6 := hc6.2.1
        have hc64 := hc6.1
        unfold maxLen at hcm6
        clear hh6 hb6 ho6 hru hsu hcs hl1 hsr hul HS5 HT HY5 HW5 hc6 hc5
        go_wp2_with fail
        go_region_law (first
          | (refine stepN (f := RowV) rfl (.tmp 94) (.tmp 96) _ rfl _ w6.heap.size 42 (.slice none 0 0) 24 Try.underlying24 nfoIS rfl (some ⟨w6.heap.size, 0, none⟩) 1 1 [(⟨a0, 4, k0⟩ : RowW)] rfl rfl (by exact own_lit1 w6 _ _) (some ⟨g, 2, none⟩) 2 (c6 - 2) [u2, u3] rfl rfl (by exact HLU.out.below (((Below.refl _ _).alloc (Nat.le_refl _) _).drew)) rowV_one (by omega) (by omega) (by omega) (by simp) ?_; intro A9 c9 zs w9 HR9 ho9 hb9'; have hb9 : Below w6.heap.size w6 w9 := (((Below.refl _ _).alloc (Nat.le_refl _) _).drew).trans hb9'; have hzl : zs.length = 3 := (by rw [HR9.out]; rfl); have HY9 := Lib.hid (HY6.out.below hb9); have HZ9 := Lib.hid (Tab.of_rows (by rw [HR9.out]; exact HRU.out.below hb9) (Seq.of_own ho9)); rw [hzl]; clear ho9 hb9' hzl HR9)
          | (refine step_call2 rfl 29 90 97 (.slice A5 3 c5) (.slice A9 3 c9) _ rfl rfl rfl (call_same _ _ _) _ (HSR.out A5 A9 c5 c9 w9 HY9.out HZ9.out) ?_; intro e w10 hh; obtain ⟨rfl, q10⟩ := hh; refine ⟨_, rfl, ?_⟩; have hb10 : Below w6.heap.size w6 w10 := hb9.trans (q10.below.mono hb9.size); have r19 := (hb10.cell (p := ⟨g, 1, none⟩) hg6).trans r1; clear q10)
          | (refine step_call1g (by rfl) 33 (.tmp 102) (.slice a1 4 k1) _ rfl rfl (call_sum _ _) _ (HSUM.out w10 hb10) ?_; intro e w11 hh; obtain ⟨rfl, rfl⟩ := hh; refine ⟨_, rfl, ?_⟩))
        all_goals
          go_wp2_with fail
          go_ret
          exact ⟨rfl, HW6.out.trans (hb10.mono HW6.out.size)⟩
end Go.Proofs.Ytncnghmadeghlaa.fnTableOfMerge
