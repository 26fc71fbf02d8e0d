/- The walk of the law FnTableOfAdd: for every code it returns true and leaves old memory alone. -/
import Derived.Test.YtncnghmadeghlaaTofI
import Derived.Test.YtncnghmadeghlaaTofS
import Derived.Test.YtncnghmadeghlaaTofL
import Derived.Test.YtncnghmadeghlaaDTof
import Derived.Test.YtncnghmadeghlaaSame
import Derived.Test.YtncnghmadeghlaaTotalI
import Derived.Test.YtncnghmadeghlaaStepP
import Derived.Test.YtncnghmadeghlaaTailQ
import Derived.Test.YtncnghmadeghlaaBound
import Derived.OpenShut
import Derived.Deep.RegionLaw
import Derived.Deep.RegionWith
import Derived.IntWalk
import Derived.ShutString
import Derived.BigQuiet
namespace Go.Proofs.Ytncnghmadeghlaa.fnTableOfAdd
open Go.RowKit
set_option linter.unusedVariables false


set_option maxRecDepth 100000 in
set_option maxHeartbeats 4000000 in
theorem walk (A : Option Addr) (c : Nat) (bs : List Int) (A' : Option Addr) (c' : Nat) (ms : List Int) (w : World) (hx : Seq ByteV w A bs) (hl : bs.length ≤ maxLen) (hc : bs.length ≤ c) (hcm : c ≤ maxLen) (hw : ∀ n ∈ bs, (Lit.int .u8 n).wf = true) (hx' : Seq ByteV w A' ms) (hl' : ms.length ≤ maxLen) (hc' : ms.length ≤ c') (hcm' : c' ≤ maxLen) (hw' : ∀ n ∈ ms, (Lit.int .u8 n).wf = true) :
    Calls Try.prog 5 #[.slice A bs.length c, .slice A' ms.length c'] w (Yes w) := by
  have hby : ∀ b ∈ bs, 0 ≤ b ∧ b ≤ 255 := fun b hb => bounds_u8 (hw b hb)
  have HB := Lib.hid hby
  clear hw hby hw' hx' hc' hcm'
  by_cases hbig : 1048576 < bs.length
  · unfold maxLen at hl hl'
    go_enter Try.func5, Try.ntmps5
    go_wp2
    go_ret
    exact ⟨rfl, Below.refl _ _⟩
  by_cases hbig' : 1048576 < ms.length
  · have hb1 : decide (1048576 < (bs.length : Int)) = false := by simp; omega
    unfold maxLen at hl hl'
    go_enter Try.func5, Try.ntmps5
    go_wp2
    go_ret
    exact ⟨rfl, Below.refl _ _⟩
  have hb1 : decide (1048576 < (bs.length : Int)) = false := by simp; omega
  have hb2 : decide (1048576 < (ms.length : Int)) = false := by simp; omega
  go_enter Try.func5, Try.ntmps5
  go_wp2_with fail
  refine (drawTableOf_any A c bs _ hx hl hc hcm HB.out).mono ?_
  rintro e w1 ⟨A1, c1, ps, rfl, hlen, ho, h1⟩
  clear hx hl hc hcm HB hb1
  have hl : ps.length ≤ 1048576 := by omega
  have HP1 := Lib.hid ho.seq
  have HN1 : Hid (A1 = none → c1 = 0) := Lib.hid (by
    rintro rfl
    rcases ho.1.2 with ⟨e, -⟩ | ⟨g, cap, cur, e, -⟩
    · injection e
    · injection e with e; cases e)
  clear ho
  by_cases hok : peoOk ps = false
  · have hi := implTableOf_any A1 c1 ps w1 HP1.out hl
    have hs := fun w (hT : SeqP w A1 ps) => specTableOf_any A1 c1 ps w hT hl
    obtain ⟨R, hR⟩ : ∃ R, tofT ps = R := ⟨_, rfl⟩
    have hRm : R.length ≤ maxLen := by rw [← hR, tofT, if_neg (by rw [hok]; simp)]; simp
    rw [hR, hok] at hi
    simp only [hR, hok] at hs
    have HI := Lib.hid hi
    have HS := Lib.hid hs
    have eRR := eqT_same R
    clear hi hs hR hok hlen hl
    go_wp2_with fail
    refine HI.out.mono ?_
    rintro e w2 ⟨A2, c2, rfl, -, hR2, hb2⟩
    have h2 := h1.trans (hb2.mono h1.size)
    have HR2 := Lib.hid hR2.tab
    clear hR2
    go_wp2_with fail
    refine (HS.out _ (HP1.out.below hb2)).mono ?_
    rintro e w3 ⟨A3, c3, rfl, -, hR3, hb3⟩
    have h3 := h2.trans (hb3.mono h2.size)
    have HR3 := Lib.hid hR3
    have HR2' := Lib.hid (HR2.out.below hb3)
    clear hR3
    go_wp2_with fail
    refine (sameRows_any A2 A3 c2 c3 R R _ HR2'.out HR3.out hRm).mono ?_
    rintro e w4 ⟨rfl, q4⟩
    have h4 := h3.trans (q4.below.mono h3.size)
    have HR24 := Lib.hid (HR2'.out.below q4.below)
    have HR34 := Lib.hid (HR3.out.below q4.below)
    clear q4
    go_wp2_with fail
    refine (sameRows_any A2 A3 c2 c3 R R _ HR24.out HR34.out hRm).mono ?_
    rintro e w5 ⟨rfl, q5⟩
    have h5 := h4.trans (q5.below.mono h4.size)
    clear q5
    go_wp2_with fail
    go_ret
    exact ⟨rfl, h5⟩
  · have hok : peoOk ps = true := by simpa using hok
    have hR : tofT ps = mkT 4 4 (cntP ps) := by rw [tofT, if_pos hok]
    have hi := implTableOf_any A1 c1 ps w1 HP1.out hl
    have hs := fun w (hT : SeqP w A1 ps) => specTableOf_any A1 c1 ps w hT hl
    rw [hR, hok] at hi
    simp only [hR, hok] at hs
    have HI := Lib.hid hi
    have HS := Lib.hid hs
    have HOK := Lib.hid hok
    have HGD := Lib.hid (cnt_good hok)
    have eRR := eqT_same (mkT 4 4 (cntP ps))
    have hsr := fun (A B : Option Addr) (c d : Nat) (W : World) (hx : Tab IntV W A (mkT 4 4 (cntP ps))) (hy : Tab IntV W B (mkT 4 4 (cntP ps))) => sameRows_any A B c d _ _ W hx hy (by rw [mkT_len]; unfold maxLen; omega)
    simp only [mkT_len, eRR] at hsr
    have HSR := Lib.hid hsr
    clear hi hs hR hok eRR hsr
    go_wp2_with fail
    refine HI.out.mono ?_
    rintro e w2 ⟨A2, c2, rfl, -, hR2, hb2⟩
    rw [mkT_len]
    have h2 := h1.trans (hb2.mono h1.size)
    have HR2 := Lib.hid hR2.tab
    clear hR2
    go_wp2_with fail
    refine (HS.out _ (HP1.out.below hb2)).mono ?_
    rintro e w3 ⟨A3, c3, rfl, -, hR3, hb3⟩
    rw [mkT_len]
    have h3 := h2.trans (hb3.mono h2.size)
    have HR3 := Lib.hid hR3
    have HR2' := Lib.hid (HR2.out.below hb3)
    have hb13 := hb2.trans (hb3.mono hb2.size)
    clear hR3
    go_wp2_with fail
    refine (HSR.out A2 A3 c2 c3 _ HR2'.out HR3.out).mono ?_
    rintro e w4 ⟨rfl, q4⟩
    have h4 := h3.trans (q4.below.mono h3.size)
    have HO4 := Lib.hid (HR2'.out.below q4.below)
    have HP4 := Lib.hid (HP1.out.below (hb13.trans (q4.below.mono hb13.size)))
    clear q4 hb2 hb3 hb13 HR2 HR3 HR2' HI HS HP1 h1 h2 h3

    obtain ⟨pa, ea, hpa⟩ : ∃ a : Nat, (ms.length : Int) % 4 = (a : Int) ∧ a < 4 := ⟨ms.length % 4, by simp, Nat.mod_lt _ (by omega)⟩
    obtain ⟨pj, ej, hpj⟩ : ∃ j : Nat, (ms.length : Int) / 4 % 4 = (j : Int) ∧ j < 4 := ⟨ms.length / 4 % 4, by simp, Nat.mod_lt _ (by omega)⟩
    have e40 : ((ps.length : Int) == 40) = false := beq_eq_false_iff_ne.2 (by omega)
    unfold maxLen at hl'
    have hmx : Try.prog.follows .mixedOrders = true := by kernel_rfl
    go_wp2_with fail
    obtain ⟨hb, hhb⟩ : ∃ h, w4.heap.size = h := ⟨_, rfl⟩
    have bx := Blk.new w4 TP #[.int .i64 pa, .int .i64 pj, .int .i64 0, .int .i64 0]
    rw [hhb] at bx ⊢
    obtain ⟨V, hV⟩ : ∃ V : World, V = w4.alloc (.cells #[.int .i64 pa, .int .i64 pj, .int .i64 0, .int .i64 0] TP) := ⟨_, rfl⟩
    have hbV : Below w4.heap.size w4 V := by rw [hV]; exact (Below.refl _ _).alloc (Nat.le_refl _) _
    have HBV := Lib.hid (h4.trans (hbV.mono h4.size))
    have HPV := Lib.hid (HP4.out.below hbV)
    have HOV := Lib.hid (HO4.out.below hbV)
    rw [← hV] at bx ⊢
    have HBX := Lib.hid bx
    have hbl : hb < V.heap.size := bx.lt
    have hqok : peoOk (ps ++ [(⟨pa, pj, 0, 0⟩ : Per)]) = true := by
      have h1 := HOK.out
      simp only [peoOk, Bool.and_eq_true, decide_eq_true_eq, List.all_append, List.all_cons, List.all_nil, List.length_append, List.length_cons, List.length_nil] at h1 ⊢
      refine ⟨⟨h1.1, ?_, by simp⟩, by omega⟩
      simp only [perOk, inB_yes (show (0 : Int) ≤ (pa : Int) by omega) (show (pa : Int) ≤ 3 by omega), inB_yes (show (0 : Int) ≤ (pj : Int) by omega) (show (pj : Int) ≤ 3 by omega)]
      rfl
    have hup : cntP (ps ++ [(⟨pa, pj, 0, 0⟩ : Per)]) = up2 (cntP ps) pa pj (cntP ps pa pj + 1) := (cntP_snoc ps ⟨pa, pj, 0, 0⟩ rfl rfl).symm
    have hof : tofT (ps ++ [(⟨pa, pj, 0, 0⟩ : Per)]) = mkT 4 4 (cntP (ps ++ [(⟨pa, pj, 0, 0⟩ : Per)])) := by rw [tofT, if_pos hqok]
    have hct : ∀ A c W, SeqP W A (ps ++ [(⟨pa, pj, 0, 0⟩ : Per)]) → Calls Try.prog 18 #[.slice A (ps.length + 1) c] W (GotT IntV 3 W (mkT 4 4 (cntP (ps ++ [(⟨pa, pj, 0, 0⟩ : Per)]))) true) := fun A c W h => by
      have h1 := implTableOf_any A c (ps ++ [(⟨pa, pj, 0, 0⟩ : Per)]) W h (by simp; omega)
      rw [hof, hqok] at h1
      simpa using h1
    have HCT := Lib.hid hct
    have HUP := Lib.hid hup
    have d0 := bx.cell 0
    have d1 := bx.cell 1
    have d2 := bx.cell 2
    have d3 := bx.cell 3
    simp at d0 d1 d2 d3
    clear hV bx hbV hqok hup hof hct ea ej
    go_region_law (first
      | (refine stepP rfl (.tmp 71) (.tmp 72) _ rfl _ V.heap.size Try.underlying27 _ 0 0 [] rfl (by first | exact ownP_nil V.drew | exact (ownP_nil V.drew).below ((Below.refl _ _).alloc (Nat.le_refl _) _) | exact ownP_nil2 V _ | exact (ownP_nil _).lower (by simp)) A1 ps.length c1 ps rfl rfl (by exact HPV.out.below (by first | exact (Below.refl _ _).drew.alloc (by simp) _ | exact ((Below.refl _ _).drew.alloc (by simp) _).alloc (by first | (simp; done) | (simp; omega)) _)) HN1.out (by omega) (by omega) (by first | (simp; done) | (simp; omega)) ?_; intro A9 c9 w9 ho9 hg9 hn9; simp only [Nat.zero_add, List.nil_append] at ho9 hn9 ⊢; have hb9 : Below V.heap.size V w9 := (by (refine Below.grown ?_ hg9 ?_ ?_ <;> first | (intro k e; simp [Value.ownBlock] at e; omega) | exact (Below.refl _ _).drew.alloc (by simp) _ | exact ((Below.refl _ _).drew.alloc (by simp) _).alloc (by first | (simp; done) | (simp; omega)) _ | go_grown | (simp; done) | (simp; omega))); have bx9 := HBX.out.below hb9 hbl; have d09 := bx9.cell 0; have d19 := bx9.cell 1; have d29 := bx9.cell 2; have d39 := bx9.cell 3; simp at d09 d19 d29 d39; (first | (have hs9 := seqP_grown1 (seqP_one (V.drew.alloc (.cells #[] TP)) pa pj 0 0) hg9 (by first | (simp [Value.ownBlock]; done) | (simp [Value.ownBlock]; omega) | (intro e; simp [Value.ownBlock] at e; omega)); (try simp at hs9)) | (have hs9 := seqP_grown1 ((seqP_one V.drew pa pj 0 0).below ((Below.refl _ _).alloc (Nat.le_refl _) (.cells #[] TP))) hg9 (by first | (simp [Value.ownBlock]; done) | (simp [Value.ownBlock]; omega) | (intro e; simp [Value.ownBlock] at e; omega)); (try simp at hs9)) | skip))
      | (refine stepP rfl (.tmp 73) (.tmp 75) _ rfl _ V.heap.size Try.underlying27 A9 ps.length c9 ps rfl (by first | exact ho9 | exact ho9.below ((Below.refl _ _).alloc (Nat.le_refl _) _)) _ 1 1 [(⟨pa, pj, 0, 0⟩ : Per)] rfl rfl (by first | exact hs9 | exact seqP_one w9 _ _ _ _) (fun e => by cases e) (by omega) (by omega) (by have := hb9.size; (first | omega | (simp; omega))) ?_; intro A8 c8 w8 ho8 hg8 hn8; have hb8 : Below V.heap.size V w8 := (by (refine Below.grown ?_ hg8 ?_ ?_ <;> first | (intro k e; exact (ho9.1.lt k e).1) | exact hb9 | exact hb9.alloc hb9.size _ | (have := hb9.size; simp; omega) | go_grown)))
      | (refine step_call1 rfl 18 (.tmp 76) (.slice A8 (ps.length + 1) c8) _ rfl rfl (call_tof _ _) _ (HCT.out A8 c8 w8 ho8.seq) ?_; intro e w7 hh; obtain ⟨A7, c7, rfl, hc7, hh7, hb7⟩ := hh; refine ⟨_, rfl, ?_⟩; rw [mkT_len] at hc7 ⊢))
    all_goals
      obtain ⟨g, vs, rfl, ho7⟩ := hh7 (by rw [mkT_len]; omega)
      rw [HUP.out] at ho7
      have hb87 : Below V.heap.size V w7 := hb8.trans (hb7.mono hb8.size)
      have bx7 := HBX.out.below hb87 hbl
      have x0 := bx7.cell 0
      have x1 := bx7.cell 1
      simp at x0 x1
      have HOV7 := Lib.hid (HOV.out.below hb87)
      have HW7 := Lib.hid (HBV.out.trans (hb87.mono HBV.out.size))
      have hle := cntP_le ps pa pj
      obtain ⟨b0, p0, -, -, -, -, rc0, -⟩ := ho7.cell_ (i := 0) (j := 0) (by omega) (by omega)
      obtain ⟨br, cr, -, r1, r2, r3, q1, q2, q3, -, hset⟩ := ho7.cell_ (i := pa) (j := pj) hpa hpj
      have hup : up2 (cntP ps) pa pj (cntP ps pa pj + 1) pa pj = cntP ps pa pj + 1 := by unfold up2; rw [if_pos ⟨rfl, rfl⟩]
      rw [hup] at q2
      have hset' := hset (cntP ps pa pj)
      rw [up2_back] at hset'
      obtain ⟨u, hu⟩ : ∃ u, cntP ps pa pj + 1 = u := ⟨_, rfl⟩
      have hu' : cntP ps pa pj = u - 1 := by omega
      rw [hu] at q2
      rw [hu'] at hset' hle
      simp only [IntV] at q2
      have wv : IntKind.i64.wrap (u - 1) = u - 1 := IntWalk.i64_in _ (by omega)
      have hlo : V.heap.size ≤ br := Nat.le_trans hb8.size r1
      have hlo2 : w.heap.size ≤ br := Nat.le_trans HBV.out.size hlo
      have HS : Hid (Tab IntV (w7.setCell ⟨br, pj, none⟩ (.int .i64 (u - 1))).drew (some ⟨g, 0, none⟩) (mkT 4 4 (cntP ps))) := Lib.hid ((hset'.below (below_drewN (Below.refl _ _) 1)).tab)
      have HOV' : Hid (Tab IntV (w7.setCell ⟨br, pj, none⟩ (.int .i64 (u - 1))).drew A2 (mkT 4 4 (cntP ps))) := Lib.hid (HOV.out.below ((hb87.setCell (p := ⟨br, pj, none⟩) hlo _).drew))
      have HB' : Hid (Below w.heap.size w (w7.setCell ⟨br, pj, none⟩ (.int .i64 (u - 1))).drew) := Lib.hid ((HW7.out.setCell (p := ⟨br, pj, none⟩) hlo2 _).drew)
      have g1 : (pa : Int) < 4 := by omega
      have g2 : (pj : Int) < 4 := by omega
      have WV := Lib.hid wv
      clear hset hset' hle hu hu' hup bx7 ho7 hb87 hb8 hb7 wv HOV HPV HBV HOV7 HW7 HCT HUP HBX hlo hlo2 HOK HGD h4 HO4 HP4
      go_wp2_with fail
      have wv := WV.out
      refine tail_Q 18 hmx (by kernel_rfl) ?_
      simp only [List.take_succ_cons, List.take_zero, List.drop_succ_cons, List.drop_zero]
      repeat (first | go_big_quiet_skip | (go_big_quiet_want; go_big_quiet_op; go_big_quiet_on))
      refine wpQuiet_nil ?_
      clear wv
      go_wp2_with fail
      refine (HSR.out _ A2 _ c2 _ HS.out HOV'.out).mono ?_
      rintro e w6 ⟨rfl, q6⟩
      have h6 := HB'.out.trans (q6.below.mono HB'.out.size)
      clear q6
      go_wp2_with fail
      go_ret
      exact ⟨rfl, h6⟩
end Go.Proofs.Ytncnghmadeghlaa.fnTableOfAdd
