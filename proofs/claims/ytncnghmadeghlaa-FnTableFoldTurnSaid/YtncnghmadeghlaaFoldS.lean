/- TableFold of the reference. -/
import Derived.Test.YtncnghmadeghlaaFoldW
import Derived.Test.YtncnghmadeghlaaCopyT
import Derived.Test.YtncnghmadeghlaaGridG
import Derived.Test.YtncnghmadeghlaaRowsV
import Derived.Test.YtncnghmadeghlaaTabValidS
import Derived.Test.YtncnghmadeghlaaSeeT
import Derived.Test.YtncnghmadeghlaaTailQ
import Derived.Deep.RegionLaw
import Derived.IntWalk
namespace Go.Proofs.Ytncnghmadeghlaa
open Go.RowKit Go.BigFrame
set_option linter.unusedVariables false
set_option maxHeartbeats 800000 in
theorem specFold_no (A : Option Addr) (c : Nat) (t : List (List Int)) (a b : Int) (w : World) (hx : Tab IntV w A t) (hl : t.length ≤ maxLen) (hv : foldIn t a b = false) :
    Calls Try.prog 25 #[.slice A t.length c, .int .i64 a, .int .i64 b] w fun e w' => ∃ z, e = .returned (.tuple #[.slice z 0 0, .bool false]) ∧ Below w.heap.size w w' := by
  have hc := specTableValid_any A c t w hx hl
  rcases tab_cases t with hT | ⟨h, wd, G, rfl, gd⟩
  · rw [hT] at hc
    have HC := Lib.hid hc
    clear hc hT hv
    go_enter Try.func25, Try.ntmps25
    go_wp2_with fail
    refine HC.out.mono ?_
    rintro e w1 ⟨rfl, hq⟩
    have hb := hq.below
    have hz := hq.size
    clear hq
    go_wp2_with fail
    go_ret2
    exact ⟨_, rfl, hb.alloc (by omega) _⟩
  · have h4 := gd.h4
    have h1 := gd.h1
    rw [gd.valid, mkT_len] at hc
    rw [mkT_len]
    have hn : ¬ (0 ≤ a ∧ a < b ∧ b < (h : Int)) := by
      simpa [foldIn, gd.valid, mkT_len] using hv
    have HC := Lib.hid hc
    have hl1 := l6In_any b 0 ((h : Int) - 1)
    clear hc hv gd
    by_cases hin : 0 ≤ b ∧ b ≤ (h : Int) - 1
    · have hl2 := l6In_any a 0 (b - 1)
      rw [inB_yes hin.1 hin.2] at hl1
      rw [inB_no (n := a) (by omega)] at hl2
      have b0 := hin.1
      have b1 := hin.2
      have HL1 := Lib.hid hl1
      have HL2 := Lib.hid hl2
      clear hl1 hl2 hin hn
      go_enter Try.func25, Try.ntmps25
      go_wp2_with fail
      refine HC.out.mono ?_
      rintro e w1 ⟨rfl, hq⟩
      have hb := hq.below
      have hz := hq.size
      clear hq
      go_wp2_with fail
      refine (HL1.out _).mono ?_
      rintro e w2 ⟨rfl, rfl⟩
      go_wp2_with fail
      refine (HL2.out _).mono ?_
      rintro e w2 ⟨rfl, rfl⟩
      go_wp2_with fail
      go_ret2
      exact ⟨_, rfl, hb.alloc (by omega) _⟩
    · rw [inB_no (n := b) (by omega)] at hl1
      have HL1 := Lib.hid hl1
      clear hl1 hin hn
      go_enter Try.func25, Try.ntmps25
      go_wp2_with fail
      refine HC.out.mono ?_
      rintro e w1 ⟨rfl, hq⟩
      have hb := hq.below
      have hz := hq.size
      clear hq
      go_wp2_with fail
      refine (HL1.out _).mono ?_
      rintro e w2 ⟨rfl, rfl⟩
      go_wp2_with fail
      go_ret2
      exact ⟨_, rfl, hb.alloc (by omega) _⟩
set_option maxRecDepth 100000 in
set_option maxHeartbeats 2000000 in
theorem specFold_yes (A : Option Addr) (c h wd p q : Nat) (G : Nat → Nat → Int) (w : World) (hx : Tab IntV w A (mkT h wd G)) (gd : Good h wd G) (hpq : p < q) (hq : q < h) :
    Calls Try.prog 25 #[.slice A h c, .int .i64 p, .int .i64 q] w (SeeT IntV w (foldT (mkT h wd G) p q) (foldOk (mkT h wd G) p q)) := by
  have h4 := gd.h4
  have w1' := gd.w1
  have w4 := gd.w4
  have hc := specTableValid_any A c (mkT h wd G) w hx (by rw [mkT_len]; unfold maxLen; omega)
  rw [mkT_len, gd.valid] at hc
  have HC := Lib.hid hc
  have HGD := Lib.hid gd
  have HX := Lib.hid hx
  have hl1 := l6In_any (q : Int) 0 ((h : Int) - 1)
  have hl2 := l6In_any (p : Int) 0 ((q : Int) - 1)
  rw [inB_yes (by omega) (by omega)] at hl1
  rw [inB_yes (by omega) (by omega)] at hl2
  have HL1 := Lib.hid hl1
  have HL2 := Lib.hid hl2
  have i1 : (p : Int) < (h : Int) := by omega
  have i2 : (q : Int) < (h : Int) := by omega
  have q1 : 1 ≤ (q : Int) := by omega
  clear hc gd hx hl1 hl2
  go_enter Try.func25, Try.ntmps25
  go_wp2_with fail
  refine HC.out.mono ?_
  rintro e w1 ⟨rfl, hqu⟩
  have HB1 := Lib.hid hqu.below
  clear hqu
  go_wp2_with fail
  refine (HL1.out _).mono ?_
  rintro e w2 ⟨rfl, rfl⟩
  go_wp2_with fail
  refine (HL2.out _).mono ?_
  rintro e w2 ⟨rfl, rfl⟩
  have hcp := l11Copy_any A c (mkT h wd G) w1 (HX.out.below HB1.out) (by rw [mkT_len]; omega) (fun r hr => by obtain ⟨i, hi, rfl⟩ := mkT_mem.1 hr; rw [mkL_len]; omega)
  rw [mkT_len] at hcp
  have HCP := Lib.hid hcp
  clear hcp
  go_wp2_with fail
  refine HCP.out.mono ?_
  rintro e w2 ⟨A4, c4, vs, rfl, -, hgr, hb2⟩
  obtain ⟨g, rfl, -, -, -, -⟩ := hgr.outer_ (j := 0) (by rw [mkT_len]; omega)
  have hcap := hgr.cap
  rw [mkT_len] at hcap
  have HGR : Hid (Grow IntV 42 3 w1.heap.size w2 (.slice (some ⟨g, 0, none⟩) h c4) vs (mkT h wd (adK G p q 0))) := Lib.hid (by rw [adK_zero]; exact hgr)
  have HB2 := Lib.hid hb2
  have HCA := Lib.hid hcap
  have hmx : Try.prog.follows .mixedOrders = true := by kernel_rfl
  clear hgr hb2 hcap HC HL1 HL2 HCP
  go_wp2_with fail
  go_loopw [9] (fun i wr => ∃ k : Nat, k ≤ wd ∧ i = .int .i64 k ∧ Hid (Grow IntV 42 3 w1.heap.size wr (.slice (some ⟨g, 0, none⟩) h c4) vs (mkT h wd (adK G p q k))) ∧ Hid (Below w1.heap.size w1 wr)) (fun i _ => wd - (intOf i).toNat)
  case atStart => exact ⟨0, Nat.zero_le _, rfl, HGR, HB2⟩
  case round =>
    clear HGR HB2
    obtain ⟨k, hk, rfl, HG, HB⟩ := hrel
    obtain ⟨W, rfl⟩ : ∃ W : World, W = wr := ⟨_, rfl⟩
    have hBW : Below w.heap.size w W := HB1.out.trans (HB.out.mono HB1.out.size)
    obtain ⟨b0, o0, A0, c0, rfl, hb0, r0, -⟩ := (HX.out.below hBW).mkrow (i := 0) (by omega)
    simp only [Nat.add_zero] at r0
    by_cases hlt : k < wd
    · obtain ⟨g1, b1, cp1, e1, hg1, hr1, hn1, x1, x2, x3, hset⟩ := HG.out.cel_ (i := p) (j := k) (by omega) hlt
      injection e1 with e1
      injection e1 with e1
      subst e1
      obtain ⟨g2, b2, cp2, e2, -, -, hn2, y1, y2, -, -⟩ := HG.out.cel_ (i := q) (j := k) hq hlt
      injection e2 with e2
      injection e2 with e2
      subst e2
      have hset' := hset (G p k + G q k)
      rw [adK_step] at hset'
      rw [adK_at] at x2
      rw [adK_other hpq] at y2
      simp only [IntV] at x2 y2
      obtain ⟨x, hxe⟩ : ∃ x, G p k = x := ⟨_, rfl⟩
      obtain ⟨y, hye⟩ : ∃ y, G q k = y := ⟨_, rfl⟩
      have u0 := HGD.out.lo p k
      have u1 := HGD.out.hi p k
      have v0 := HGD.out.lo q k
      have v1 := HGD.out.hi q k
      rw [hxe] at u0 u1 x2 hset'
      rw [hye] at v0 v1 y2 hset'
      have wxy : IntKind.i64.wrap (x + y) = x + y := IntWalk.i64_in _ (by omega)
      have HS : Hid (Grow IntV 42 3 w1.heap.size (W.setCell ⟨b1, k, none⟩ (.int .i64 (x + y))).drew (.slice (some ⟨g, 0, none⟩) h c4) vs (mkT h wd (adK G p q (k + 1)))) := Lib.hid (hset'.below (below_drewN (Below.refl _ _) 1))
      have HB' : Hid (Below w1.heap.size w1 (W.setCell ⟨b1, k, none⟩ (.int .i64 (x + y))).drew) := Lib.hid ((HB.out.setCell (p := ⟨b1, k, none⟩) hr1.1 _).drew)
      have g1' : (k : Int) < (wd : Int) := by omega
      have WXY := Lib.hid wxy
      clear hset hset' hxe hye hBW hg1 hr1 hn1 hn2 wxy
      go_wp2_with fail
      have wxy := WXY.out
      refine tail_Q 21 hmx (by kernel_rfl) ?_
      simp only [List.take_succ_cons, List.take_zero, List.drop_succ_cons, List.drop_zero]
      repeat (first | go_big_quiet_skip | (go_big_quiet_want; go_big_quiet_op; go_big_quiet_on))
      refine wpQuiet_nil ?_
      clear wxy
      go_wp2_with fail
      go_roundw
      case rel => exact ⟨k + 1, by omega, by go_num, HS, HB'⟩
      case measure => simp [intOf]; omega
    · obtain rfl : k = wd := by omega
      obtain ⟨us, hru, hsu⟩ := (HG.out.tab_ (mkT_len _ _ _)).rows
      have hul : us.length = h := by rw [hru.1, mkT_len]
      obtain ⟨r, hr⟩ : ∃ r, q + 1 = r := ⟨_, rfl⟩
      have HL := Lib.hid (hsu.lst (c := c4) (by omega) (by have := HCA.out; omega) HCA.out.2)
      have HRU := Lib.hid hru
      have wr : IntKind.i64.wrap ((q : Int) + 1) = (r : Int) := by rw [IntWalk.i64_in _ (by omega)]; omega
      have hcap := HCA.out.1
      have hcm := HCA.out.2
      have s1 : (r : Int) ≤ (h : Int) := by omega
      have s2 : (h : Int) ≤ (c4 : Int) := by omega
      have s3 : (0 : Int) ≤ (r : Int) := by omega
      have s4 : (q : Int) ≤ (c4 : Int) := by omega
      have s5 : (0 : Int) ≤ (q : Int) := by omega
      have s6 : (r : Int) ≤ (c4 : Int) := by omega
      have hqu : q ≤ us.length := by omega
      have hru2 : r ≤ us.length := by omega
      have hu4 : us.length ≤ 4 := by omega
      have hrl : us.length - r = h - r := by omega
      have hr0 : ¬ r = 0 := by omega
      have HLD : Hid (Lst RowV W (if c4 = r then some (⟨g, 0, none⟩ : Addr) else some ⟨g, r, none⟩) (c4 - r) (us.drop r)) := Lib.hid (by
        have h1 := HL.out.drop hru2
        have e : Option.map (fun x : Addr => x.add r) (some (⟨g, 0, none⟩ : Addr)) = some ⟨g, r, none⟩ := by simp [Addr.add, hr0]
        rw [e] at h1
        exact h1)
      have HRR := Lib.hid hr
      have HUL := Lib.hid hul
      unfold maxLen at hcm
      clear hsu hru hr hul
      go_wp2_with fail
      go_region_law (first
        | (refine stepN (f := RowV) rfl (.tmp 61) (.tmp 64) _ rfl _ W.heap.size 42 (.slice none 0 0) 24 Try.underlying24 nfoIS rfl _ 0 0 [] rfl rfl (by exact own_empty W _) (some ⟨g, 0, none⟩) q c4 (us.take q) (by simp; omega) rfl (by exact (HL.out.below ((Below.refl _ _).alloc (Nat.le_refl _) _)).take hqu) rowV_one (by omega) (by omega) (by omega) (by simp) ?_; intro Ar0 cr0 rt0 wr0 HR0 hor0 hbr0'; have hbr0 : Below W.heap.size W wr0 := (((Below.refl _ _).alloc (Nat.le_refl _) _).drew).trans hbr0'; clear hbr0')
        | (refine stepN (f := RowV) rfl (.tmp 65) (.tmp 69) _ rfl _ W.heap.size 42 (.slice none 0 0) 24 Try.underlying24 nfoIS rfl Ar0 _ cr0 rt0 rfl rfl (by exact hor0) _ (h - r) (c4 - r) (us.drop r) (by simp; omega) rfl (by exact HLD.out.below hbr0) rowV_one (by rw [HR0.out]; simp; omega) (by omega) (by omega) hbr0.size ?_; intro A9 c9 zs w9 HR1 ho9 hbr1))
      generalize (if c4 = r then some (⟨g, 0, none⟩ : Addr) else some ⟨g, r, none⟩) = Az
      have hb9 := hbr0.trans hbr1
      have hz9 : zs = us.take q ++ us.drop (q + 1) := by rw [HR1.out, HR0.out, HRR.out]; rfl
      have hzl : zs.length = h - 1 := by rw [hz9]; simp; have := HUL.out; omega
      have hrz : RowsAre IntV w9 zs (mkT (h - 1) k (fdF G p q)) := by
        rw [← adK_skip G hpq, ← mkT_skip (adK G p q k) hq, hz9]
        exact ((HRU.out.take q).append (HRU.out.drop (q + 1))).below hb9
      have hT9 := Tab.of_rows hrz (Seq.of_own ho9)
      have hcap9 := own_cap ho9
      rw [hzl] at hcap9
      rw [hzl]
      have hva := specTableValid_any A9 c9 _ w9 hT9 (by rw [mkT_len]; unfold maxLen; omega)
      rw [mkT_len] at hva
      have hok := fold_ok HGD.out hpq hq
      have hR := fold_mk HGD.out hpq hq
      have HV := Lib.hid hva
      have HOK := Lib.hid hok
      have HRF := Lib.hid hR
      have HT9 := Lib.hid hT9
      have h9 : Below w.heap.size w w9 := hBW.trans (hb9.mono hBW.size)
      have HCAP9 := Lib.hid hcap9
      clear hbr0 hbr1 hb9 hz9 hzl hrz hT9 ho9 hcap9 hva hok hR hor0 HR0 HR1 wr
      cases hv : tabValid (mkT (h - 1) k (fdF G p q))
      · rw [hv] at HV HOK
        clear hv
        go_wp2_with fail
        refine HV.out.mono ?_
        rintro e w10 ⟨rfl, hq10⟩
        have h10 := h9.trans (hq10.below.mono h9.size)
        have hz10 := h10.size
        clear hq10
        go_wp2_with fail
        go_ret2
        rw [HOK.out, fold_no HOK.out]
        exact ⟨_, 0, rfl, ⟨by simp, by unfold maxLen; omega⟩, Tab.nil_, h10.alloc hz10 _⟩
      · rw [hv] at HV HOK
        clear hv
        go_wp2_with fail
        refine HV.out.mono ?_
        rintro e w10 ⟨rfl, hq10⟩
        have h10 := h9.trans (hq10.below.mono h9.size)
        have hT10 := HT9.out.below hq10.below
        clear hq10
        go_wp2_with fail
        go_ret2
        rw [foldT, HOK.out, if_pos rfl, HRF.out]
        exact ⟨A9, c9, by rw [mkT_len]; rfl, by rw [mkT_len]; exact HCAP9.out, hT10, h10⟩
theorem specFold_any (A : Option Addr) (c : Nat) (t : List (List Int)) (a b : Int) (w : World) (hx : Tab IntV w A t) (hl : t.length ≤ maxLen) :
    Calls Try.prog 25 #[.slice A t.length c, .int .i64 a, .int .i64 b] w (SeeT IntV w (foldT t a b) (foldOk t a b)) := by
  rcases fold_cases t a b with ⟨e1, e2, e3⟩ | ⟨h, wd, G, p, q, rfl, gd, rfl, rfl, hpq, hq⟩
  · refine (specFold_no A c t a b w hx hl e1).mono ?_
    rintro e w' ⟨z, rfl, hb⟩
    rw [e2, e3]
    exact ⟨z, 0, rfl, ⟨by simp, by unfold maxLen; omega⟩, Tab.nil_, hb⟩
  · rw [mkT_len]
    exact specFold_yes A c h wd p q G w hx gd hpq hq
end Go.Proofs.Ytncnghmadeghlaa
