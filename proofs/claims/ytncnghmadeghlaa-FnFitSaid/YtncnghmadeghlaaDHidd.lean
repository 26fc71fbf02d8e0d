/- l92Hidden: some table, some mask and some cell are drawn. -/
import Derived.Test.YtncnghmadeghlaaDHid
import Derived.Test.YtncnghmadeghlaaTabValidS
namespace Go.Proofs.Ytncnghmadeghlaa
open Go.RowKit
set_option linter.unusedVariables false
/-- what l92Hidden leaves -/
def DrawnHid (w : World) (B g p : Nat) (e : Ending) (w' : World) : Prop :=
  ∃ A c t A2 c2 m, ∃ i j : Int, ∃ p', e = .returned (.tuple #[.slice A (t : List (List Int)).length c, .slice A2 (m : List (List Bool)).length c2, .int .i64 i, .int .i64 j]) ∧ ((t.length ≤ c ∧ c ≤ maxLen) ∧ (m.length ≤ c2 ∧ c2 ≤ maxLen)) ∧ (∀ w'', w'.grownBy w'' (some g) → Tab IntV w'' A t ∧ Tab BoolV w'' A2 m) ∧ Short t ∧ m.length ≤ 5 ∧ (0 ≤ i ∧ i ≤ 4) ∧ (-1 ≤ j ∧ j ≤ 5) ∧ Rd w' B g p' ∧ p' ≤ p + 300 ∧ w.grownBy w' (some g)
/-- behind the cell's column -/
def ColRel (w3 : World) (B g p : Nat) (t : List (List Int)) (v : Value) (wx : World) : Prop := ∃ jj q : Nat, v = .int .i64 jj ∧ jj ≤ 5 ∧ (tabValid t = true → jj < wid t) ∧ Rd wx B g q ∧ q ≤ p + 150 ∧ w3.grownBy wx (some g)
theorem results_four {fn : Func} {t u v x : Tmp} (h : fn.results = #[.tmp t, .tmp u, .tmp v, .tmp x]) (tmps : Array Value) (P : Program) (w : World) :
    (results fn tmps).run P w = .ok (.tuple #[tmps.getD t undef, tmps.getD u undef, tmps.getD v undef, tmps.getD x undef]) w := by simp [results, h]
theorem lit2 {k : Nat} (hk : (k : Int) < 2) : ∃ y : Int, (#[.int .i64 (-1), .int .i64 4] : Array Value)[k]? = some (.int .i64 y) ∧ -1 ≤ y ∧ y ≤ 5 := by
  have hk' : k = 0 ∨ k = 1 := by omega
  rcases hk' with rfl | rfl
  · exact ⟨-1, rfl, by omega, by omega⟩
  · exact ⟨4, rfl, by omega, by omega⟩
set_option maxHeartbeats 2000000 in
theorem l92Hidden_any (B g p : Nat) (w : World) (hr : Rd w B g p) (hB : B ≤ w.heap.size) (hp : p ≤ 800000) :
    Calls Try.prog 77 #[.pointer (some ⟨g, 0, none⟩)] w (DrawnHid w B g p) := by
  have hgB := hr.lt
  go_enter Try.func77, Try.ntmps77
  go_wp2_with fail
  refine (l92Table_any B g p 7 w hr hB (by omega) (by omega)).mono ?_
  rintro e w1 ⟨A, c, t, p1, rfl, hc, hT, hS, hr1, hp1, hg1⟩
  have hs1 := hg1.size
  have ht4 := hS.1
  have HS := Lib.hid hS
  have HT := Lib.hid hT
  have HG1 := Lib.hid hg1
  clear hr hS hT hg1
  go_wp2_with fail
  refine (l92Mask_any B g p1 A c t w1 HT.out HS.out hr1 (by omega) (by omega)).mono ?_
  rintro e w2 ⟨A2, c2, m, p2, lo, vs, rfl, hGR, hlo, hm5, hr5, hr2, hp2, hg2⟩
  have hs2 := hg2.size
  have HGR := Lib.hid hGR
  have HM5 := Lib.hid hr5
  have HG2 := Lib.hid hg2
  clear hr1 hGR hr5 hg2
  go_upto_region 3 with (fail)
  go_cut [8] (fun v wx => ∃ k : Nat, v = .int .i64 k ∧ k ≤ 3 ∧ (1 ≤ t.length → k < t.length) ∧ Rd wx B g (p2 + 1) ∧ w2.grownBy wx (some g))
  case first =>
    go_wp2_with fail
    all_goals
      refine (pick_int B g p2 _ w2 hr2 (by omega) (by omega) (by omega)).mono ?_
      rintro e w3 ⟨k1, rfl, hk1, hr3, hg3, hz3⟩
      go_wp2_with fail
      go_meet
      exact ⟨k1, rfl, by omega, by omega, hr3, hg3⟩
  case rest =>
    obtain ⟨k1, rfl, hk1, hkt, hr3, hg3⟩ := hcut
    obtain ⟨w3, rfl⟩ : ∃ w3 : World, w3 = wc := ⟨_, rfl⟩
    have hs3 := hg3.size
    have HG3 := Lib.hid (HG2.out.trans hg3)
    have HGR3 := Lib.hid (HGR.out.kept hg3 (by omega))
    clear hr2 hg3 HGR HG2
    go_wp2_with fail
    refine (pick_int B g (p2 + 1) 3 _ hr3 (by omega) (by omega) (by omega)).mono ?_
    rintro e w4 ⟨k2, rfl, hk2, hr4, hg4, hz4⟩
    have hs4 := hg4.size
    have HG4 := Lib.hid (HG3.out.trans hg4)
    have HGR4 := Lib.hid (HGR3.out.kept hg4 (by omega))
    clear hr3 hg4 HGR3 HG3
    have HT4 := Lib.hid (HT.out w4 HG4.out)
    go_wp2_with fail
    refine (specTableValid_any A c t w4 HT4.out (by unfold maxLen; omega)).mono ?_
    rintro e w5 ⟨rfl, hq5⟩
    have HG5 := Lib.hid (grow_of_below hq5.below (some g))
    have HR5 := Lib.hid (hr4.below (hq5.below.mono (by omega)))
    have hz5 := hq5.size
    have hB5 : B ≤ w5.heap.size := by omega
    clear hq5 hr4 HT4
    go_upto_if 23 with (fail)
    go_cut [9] (fun v wx => ColRel w4 B g p t v wx)
    case first =>
      cases hv : tabValid t
      · have HV := Lib.hid hv
        clear hv
        go_wp2_with fail
        go_meet
        exact ⟨k2, _, rfl, by omega, (fun h => by have := HV.out; rw [this] at h; cases h), HR5.out, by omega, HG5.out⟩
      · obtain ⟨⟨t1, t2, t3, t4⟩, -⟩ := tabValid_iff.1 hv
        obtain ⟨tb, tq, r, Ar, cr, rfl, htb, hrk, kr, -⟩ := (HT.out w5 (HG4.out.trans HG5.out)).at_ (k := 0) (by omega)
        have hw := wid_at hrk
        have i1 : (0 : Int) < (t.length : Int) := by omega
        have HRK := Lib.hid hrk
        have HV := Lib.hid hv
        clear hrk hv
        simp only [Nat.add_zero] at kr
        go_wp2_with fail
        refine (pick_int B g (p2 + 1 + 1) (r.length : Int) w5 HR5.out (by omega) (by omega) (by omega)).mono ?_
        rintro e w6 ⟨k3, rfl, hk3, hr6, hg6, hz6⟩
        have HR6 := Lib.hid hr6
        have HG6 := Lib.hid (HG5.out.trans hg6)
        clear hr6 hg6
        go_wp2_with fail
        go_meet
        exact ⟨k3, _, rfl, by omega, (fun _ => by omega), HR6.out, by omega, HG6.out⟩
    case rest =>
      obtain ⟨jj, q, rfl, hjj, hjw, hrq, hq, hgq⟩ := hcut
      clear HG5 HR5 hz5 hB5
      clear w5
      obtain ⟨w5, rfl⟩ : ∃ w5 : World, w5 = wc := ⟨_, rfl⟩
      have hs5 := hgq.size
      have HJW := Lib.hid hjw
      have HG5 := Lib.hid (HG4.out.trans hgq)
      have HGR5 := Lib.hid (HGR4.out.kept hgq (by omega))
      clear hgq HGR4 HG4 hjw
      go_upto_region 7 with (fail)
      go_cut [37] (fun v wx => ∃ (b : Bool) (q2 : Nat), v = .bool b ∧ (b = true → maskValid t m = true) ∧ Rd wx B g q2 ∧ q2 ≤ q + 1 ∧ w5.grownBy wx (some g))
      case first =>
        have HT5 := Lib.hid (HT.out w5 HG5.out)
        have HM5' := Lib.hid (Grow.hold (A := A2) (c := c2) HGR5.out).tab
        go_wp2_with fail
        refine (specMaskValid_any A A2 c c2 t m w5 HT5.out HM5'.out (by unfold maxLen; omega) (by unfold maxLen; omega)).mono ?_
        rintro e w6 ⟨rfl, hq6⟩
        have HG6 := Lib.hid (grow_of_below hq6.below (some g))
        have HR6 := Lib.hid (hrq.below (hq6.below.mono (by omega)))
        have hz6 := hq6.size
        clear hq6 hrq
        cases hv : maskValid t m
        · have HV := Lib.hid hv
          clear hv
          go_wp2_with fail
          go_meet
          exact ⟨false, _, rfl, (fun h => by cases h), HR6.out, by omega, HG6.out⟩
        · have HV := Lib.hid hv
          clear hv
          go_wp2_with fail
          refine (pick_int B g q _ w6 HR6.out (by omega) (by omega) (by omega)).mono ?_
          rintro e w7 ⟨k3, rfl, hk3, hr7, hg7, hz7⟩
          have HR7 := Lib.hid hr7
          have HG7 := Lib.hid (HG6.out.trans hg7)
          clear hr7 hg7
          go_wp2_with fail
          go_meet
          exact ⟨_, _, rfl, fun _ => HV.out, HR7.out, by omega, HG7.out⟩
      case rest =>
        obtain ⟨b, q2, rfl, hbv, hr6, hq2, hg6⟩ := hcut
        obtain ⟨w6, rfl⟩ : ∃ w6 : World, w6 = wc := ⟨_, rfl⟩
        have hs6 := hg6.size
        have HBV := Lib.hid hbv
        have HG6 := Lib.hid (HG5.out.trans hg6)
        have HGR6 := Lib.hid (HGR5.out.kept hg6 (by omega))
        clear hrq hg6 HGR5 HG5 hbv
        go_upto_if 37 with (fail)
        go_cut [] (fun wx => ∃ m' : List (List Bool), m'.length = m.length ∧ Grow BoolV 60 4 lo wx (.slice A2 m.length c2) vs m' ∧ Rd wx B g q2 ∧ w1.grownBy wx (some g))
        case first =>
          cases hb : b
          · subst hb
            go_wp2_with fail
            go_meet
            exact ⟨m, rfl, HGR6.out, hr6, HG6.out⟩
          · subst hb
            have hv := HBV.out rfl
            have hv1 := hv
            rw [maskValid, Bool.and_eq_true, Bool.and_eq_true, decide_eq_true_eq] at hv1
            have htt := HJW.out hv1.1.1
            have hml := hv1.1.2
            obtain ⟨⟨t1, t2, t3, t4⟩, -⟩ := tabValid_iff.1 hv1.1.1
            have hkm : k1 < m.length := by omega
            have hrk : m[k1]? = some m[k1] := List.getElem?_eq_getElem hkm
            have hrl : (m[k1]).length = wid t := by
              have := hv1.2
              rw [lensOk, List.all_eq_true] at this
              simpa using this _ (List.getElem_mem hkm)
            obtain ⟨gg, rfl, hg1, hg2, cO, -⟩ := HGR6.out.outer_ hkm
            obtain ⟨bb, cap, hvs, hb1, hb2, hb3, cR, fR, hset⟩ := HGR6.out.spot hrk (i := jj) (by omega)
            have hne : bb ≠ gg := fun e => hb3 (by rw [e]; rfl)
            rw [hvs, hrl] at cO
            obtain ⟨wd, hwd⟩ : ∃ n, n = wid t := ⟨_, rfl⟩
            rw [← hwd] at cO
            have g1 : (k1 : Int) < (m.length : Int) := by omega
            have g2 : (jj : Int) < (wd : Int) := by omega
            have HSET := Lib.hid hset
            have hbw : w1.heap.size ≤ bb := by omega
            clear hset hv hv1 hrk hml hvs
            go_wp2_with fail
            go_meet
            exact ⟨_, by simp, HSET.out true, hr6.keep fun x hx => Below.heap_setCell _ _ _ x (by simp; omega), grow_step HG6.out (w2 := w6.setCell ⟨bb, jj, none⟩ (.bool true)) (row := some bb) ⟨rfl, rfl, rfl, by simp [World.setCell], fun x hx hne => Below.heap_setCell _ _ _ x (fun e => hne (by rw [e]))⟩ (fun x e => .inr (by injection e with e; omega))⟩
        case rest =>
          obtain ⟨m', hml, hGR7, hr7, hg7⟩ := hcut
          obtain ⟨w7, rfl⟩ : ∃ w7 : World, w7 = wc := ⟨_, rfl⟩
          have hs7 := hg7.size
          have HGR7 := Lib.hid hGR7
          have HG7 := Lib.hid hg7
          have HML := Lib.hid hml
          clear hr6 hGR7 hg7 hml HGR6 HG6
          go_wp2_with fail
          refine (pick_int B g q2 24 w7 hr7 (by omega) (by omega) (by omega)).mono ?_
          rintro e w8 ⟨k4, rfl, hk4, hr8, hg8, hz8⟩
          have hs8 := hg8.size
          have hgs8 : g < w8.heap.size := by omega
          have HG8 := Lib.hid (HG7.out.trans hg8)
          have HGR8 := Lib.hid (HGR7.out.kept hg8 (by omega))
          clear hr7 hg8 HGR7 HG7
          go_upto_if 46 with (fail)
          go_cut [9] (fun v wx => ∃ (y : Int) (q3 : Nat), v = .int .i64 y ∧ (-1 ≤ y ∧ y ≤ 5) ∧ Rd wx B g q3 ∧ q3 ≤ q2 + 2 ∧ w8.grownBy wx (some g))
          case first =>
            by_cases h4 : k4 = 0
            · subst h4
              go_wp2_with fail
              refine (pick_int B g (q2 + 1) 2 _ (hr8.alloc (by omega) _) (by omega) (by omega) (by omega)).mono ?_
              rintro e w9 ⟨k9, rfl, hk9, hr9, hg9, hz9⟩
              obtain ⟨y, hy, y0, y1⟩ := lit2 hk9
              have cL9 : w9.cell? ⟨w8.heap.size, k9, none⟩ = some (.int .i64 y) := by
                refine (hg9.cell_far ⟨w8.heap.size, k9, none⟩ (by simp) (by simp; omega)).trans ?_
                simpa using hy
              have HG9 := Lib.hid ((World.grownBy_alloc w8 _ (some g)).trans hg9)
              have HR9 := Lib.hid hr9
              clear hr9 hg9
              go_wp2_with fail
              go_meet
              exact ⟨y, _, rfl, by omega, HR9.out, by omega, HG9.out⟩
            · have h4' : ((k4 : Int) == 0) = false := beq_eq_false_iff_ne.2 (by omega)
              go_wp2_with fail
              go_meet
              exact ⟨jj, _, rfl, by omega, hr8, by omega, World.grownBy.refl _ _⟩
          case rest =>
            obtain ⟨y, q3, rfl, hy, hr9, hq3, hg9⟩ := hcut
            obtain ⟨w9, rfl⟩ : ∃ w9 : World, w9 = wc := ⟨_, rfl⟩
            have HG9 := Lib.hid (HG8.out.trans hg9)
            have HGR9 := Lib.hid (HGR8.out.kept hg9 (by omega))
            clear hr8 hg9 HGR8 HG8
            go_wp2_with fail
            refine bodyPost_ret (results_four rfl _ _ _) rfl ?_
            have hml := HML.out
            exact ⟨A, c, t, A2, c2, m', k1, y, q3, by rw [hml]; rfl, ⟨hc, HGR9.out.cap⟩, fun w'' hg => ⟨HT.out w'' (HG9.out.trans hg), (Grow.hold (A := A2) (c := c2) (by rw [hml]; exact HGR9.out.kept hg (by omega))).tab⟩, HS.out, by omega, by omega, hy, hr9, by omega, HG1.out.trans HG9.out⟩
end Go.Proofs.Ytncnghmadeghlaa
