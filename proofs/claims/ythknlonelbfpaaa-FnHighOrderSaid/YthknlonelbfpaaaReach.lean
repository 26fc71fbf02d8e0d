/- reach: the search by breadth of the program. -/
import Derived.Test.YthknlonelbfpaaaQueue
import Derived.Test.YthknlonelbfpaaaRepeat
import Derived.Deep.LoopGhost
namespace Go.Proofs.Ythknlonelbfpaaa
open Go.RowKit
set_option linter.unusedVariables false
/-- a place with room leads to another -/
def Roomy (R : Nat → Nat → Int) (u v : Nat) : Prop := 0 < R u v
set_option maxHeartbeats 4000000 in
theorem reach_any (A : Option Addr) (c n a : Nat) (R : Nat → Nat → Int) (w : World) (hx : Tab IntV w A (mkT n n R)) (hn8 : n ≤ 8) (ha : a < n) :
    Calls Try.prog 33 #[.slice A n c, .int .i64 a] w (Searched 3 n a (Roomy R) w) := by
  have hb0 : Below w.heap.size w (w.alloc (.cells #[.int .i64 (-1)] 3)) := (Below.refl _ _).alloc (Nat.le_refl _) _
  have hrp := repeat_any n w.heap.size 0 1 (-1) (w.alloc (.cells #[.int .i64 (-1)] 3)) (by rw [(Blk.new w 3 #[.int .i64 (-1)]).cell 0]; rfl) (by simp) (by omega) hn8
  have HRP := Lib.hid hrp
  have HB0 := Lib.hid hb0
  have a1 : (a : Int) < (n : Int) := by omega
  clear hrp hb0
  go_enter Try.func33, Try.ntmps33
  go_wp2_with fail
  refine HRP.out.mono ?_
  rintro e w1 ⟨Ap, cp, rfl, ho, hb1⟩
  rw [mkL_len] at ho ⊢
  have ho1 := own_lower ho (show w.heap.size ≤ (w.alloc (.cells #[.int .i64 (-1)] 3)).heap.size by simp)
  have hb2 : Below w.heap.size w w1 := HB0.out.trans (hb1.mono HB0.out.size)
  obtain ⟨pb, rfl, hpb1, hpb2, cp0, fp0, hset⟩ := own_mk ho1 ha
  have hset' := hset (a : Int)
  have hsz := hb2.size
  have hnew : Blk ((w1.setCell ⟨pb, a, none⟩ (.int .i64 a)).alloc (.cells #[.int .i64 a] 3)) w1.heap.size 3 #[.int .i64 a] := by
    have := Blk.new (w1.setCell ⟨pb, a, none⟩ (.int .i64 a)) 3 #[.int .i64 a]
    rwa [show (w1.setCell ⟨pb, a, none⟩ (.int .i64 a)).heap.size = w1.heap.size by simp [World.setCell]] at this
  have HL : Hid (QLists 3 w.heap.size n (some ⟨pb, 0, none⟩) cp (some ⟨w1.heap.size, 0, none⟩) 1 [a] (up1 (fun _ => -1) a a) ((w1.setCell ⟨pb, a, none⟩ (.int .i64 a)).alloc (.cells #[.int .i64 a] 3))) := Lib.hid
    ⟨hset'.alloc _, QMem.one w1 hsz hnew, fun b h1 h2 => by simp [Value.ownBlock] at h1 h2; omega⟩
  have HB1 : Hid (Below w.heap.size w ((w1.setCell ⟨pb, a, none⟩ (.int .i64 a)).alloc (.cells #[.int .i64 a] 3))) := Lib.hid ((hb2.setCell (p := ⟨pb, a, none⟩) hpb1 _).alloc (by simp [World.setCell]; omega) _)
  have HF0 : Hid (Bfs n a (Roomy R) [a] 0 0 (up1 (fun _ => -1) a a)) := Lib.hid (Bfs.start ha)
  clear hset hset' hnew ho ho1 hb1 hb2 HB0
  go_wp2_with fail
  go_loopg [6] n (fun gk v wr => ∃ (z : Nat) (q us : List Nat) (par : Nat → Int) (Aq : Option Addr) (cq : Nat), z + gk = n ∧ v = .slice Aq us.length cq ∧ Hid (us = q.drop z ∧ z ≤ q.length) ∧ Hid (Bfs n a (Roomy R) q z 0 par) ∧ Hid (QLists 3 w.heap.size n (some ⟨pb, 0, none⟩) cp Aq cq us par wr) ∧ Hid (Below w.heap.size w wr))
  case atStart => exact ⟨0, [a], [a], _, _, _, by omega, rfl, Lib.hid ⟨rfl, by simp⟩, HF0, HL, HB1⟩
  case round =>
    clear HF0 HL HB1 cp0 fp0
    obtain ⟨z, q, us, par, Aq, cq, hgk, rfl, HU, HF, HL, HB⟩ := hrel
    obtain ⟨wi, rfl⟩ : ∃ wi : World, wi = wr := ⟨_, rfl⟩
    have HGK := Lib.hid hgk
    have hul : us.length = q.length - z := by rw [HU.out.1, List.length_drop]
    have HUL := Lib.hid hul
    have hqn := HF.out.len
    clear hgk hul
    by_cases hzq : z < q.length
    · have hpos : 0 < us.length := by have := HUL.out; omega
      have hposI : (0 : Int) < (us.length : Int) := by omega
      obtain ⟨u, hu⟩ : ∃ u, q[z]? = some u := ⟨_, List.getElem?_eq_getElem hzq⟩
      have hun := HF.out.lt u (List.mem_of_getElem? hu)
      have hcons : us = u :: q.drop (z + 1) := by rw [HU.out.1]; exact drop_cons hu
      have hqm := HL.out.qm
      rw [hcons, List.map_cons] at hqm
      obtain ⟨qb, qo, rfl, hqb1, hqb2, cq0⟩ := hqm.head
      obtain ⟨rb, ro, Ar, cr, rfl, hrb, kr, hLr⟩ := hx.mkrow hun
      have kr2 := (HB.out.cell (p := ⟨rb, ro + u, none⟩) hrb).trans kr
      have HLR := Lib.hid hLr
      have HUU := Lib.hid hu
      have HZQ := Lib.hid hzq
      have u1 : (u : Int) < (n : Int) := by omega
      clear hu hcons hqm kr hLr hzq
      go_wp2_with fail
      go_loopw [6, 31] (fun v i wr => ∃ (m : Nat) (q us : List Nat) (par : Nat → Int) (Aq : Option Addr) (cq : Nat), m ≤ n ∧ i = .int .i64 m ∧ v = .slice Aq us.length cq ∧ Hid (us = q.drop z ∧ z < q.length) ∧ Hid (q[z]? = some u) ∧ Hid (Bfs n a (Roomy R) q z m par) ∧ Hid (QLists 3 w.heap.size n (some ⟨pb, 0, none⟩) cp Aq cq us par wr) ∧ Hid (Below w.heap.size w wr)) (fun _ i _ => n - (intOf i).toNat)
      case atStart => exact ⟨0, q, us, par, _, cq, Nat.zero_le _, rfl, rfl, Lib.hid ⟨HU.out.1, HZQ.out⟩, HUU, HF, HL, HB⟩
      case round =>
        clear HU HUU HF HL HB HUL HZQ cq0 hqb1 hqb2 hpos hposI hqn kr2
        obtain ⟨m, q, us, par, Aq, cq, hm, rfl, rfl, HU, HUU, HF, HL, HB⟩ := hrel
        obtain ⟨W, rfl⟩ : ∃ W : World, W = wr := ⟨_, rfl⟩
        have hul : us.length = q.length - z := by rw [HU.out.1, List.length_drop]
        have HUL := Lib.hid hul
        have hzq := HU.out.2
        have hqn := HF.out.len
        have hpos : 0 < us.length := by omega
        have hus8 : us.length ≤ 8 := by omega
        have hcons : us = u :: q.drop (z + 1) := by rw [HU.out.1]; exact drop_cons HUU.out
        have hqm := HL.out.qm
        rw [hcons, List.map_cons] at hqm
        obtain ⟨qb, qo, rfl, hqb1, hqb2, cq0⟩ := hqm.head
        have HQM := Lib.hid hqm
        have HCONS := Lib.hid hcons
        clear hul hqm hcons
        have hposI : (0 : Int) < (us.length : Int) := by omega
        by_cases hmn : m < n
        · obtain ⟨xb, xo, x, rfl, hxb, hxk, kx⟩ := (HLR.out.below HB.out).1.at_ (k := m) (by rw [mkL_len]; exact hmn)
          rw [mkL_get _ hmn] at hxk
          injection hxk with hxk
          obtain ⟨pb', hpe, -, hpb3, cp1, fp1, hst⟩ := HL.out.store hmn (u : Int)
          obtain rfl : pb = pb' := by injection hpe with hpe; injection hpe
          obtain ⟨p, hp⟩ : ∃ p, par m = p := ⟨_, rfl⟩
          rw [hp] at cp1
          have HP := Lib.hid hp
          have HX := Lib.hid hxk
          have HST := Lib.hid hst
          have hWz := HB.out.size
          have hne : qb ≠ pb := fun e => HL.out.ds qb rfl (by rw [e]; rfl)
          have hne2 : pb ≠ qb := fun e => hne e.symm
          have m1 : (m : Int) < (n : Int) := by omega
          clear hp hxk hst hpe
          by_cases hx0 : 0 < x
          · have d1 : decide (0 < x) = true := decide_eq_true hx0
            by_cases hp0 : p < 0
            · have d0 : decide (p < 0) = true := decide_eq_true hp0
              have HF2 := Lib.hid (HF.out.add HUU.out hmn (by rw [HP.out]; exact hp0) (show Roomy R u m by unfold Roomy; rw [HX.out]; exact hx0))
              have hL2 := HST.out
              have hq2 := hL2.qm
              have HL2 := Lib.hid hL2
              have hsz2 : w.heap.size ≤ (W.setCell ⟨pb, m, none⟩ (.int .i64 u)).heap.size := by simp [World.setCell]; omega
              clear hL2
              go_wp2_with (at_builtin; refine appQ rfl (.tmp 51) (.tmp 53) _ rfl (W.setCell ⟨pb, m, none⟩ (.int .i64 u)) W.heap.size (by simp [World.setCell]) w.heap.size 3 (.int .i64 0) 8 Try.underlying28 nfoI rfl (some ⟨qb, qo, none⟩) us.length cq (us.map IntN) (by rw [List.length_map]) rfl hq2 (.int .i64 m) rfl rfl (by omega) (by omega) hsz2 ?_)
              intro A' c' w6 ho6 hg6 hn6
              have HL6 := Lib.hid (HL2.out.push (m := m) ho6 hg6 (fun b e => (hn6 b e).imp id (fun x => by simpa [World.setCell] using x)))
              have HB6 : Hid (Below w.heap.size w w6) := Lib.hid ((HB.out.setCell (p := ⟨pb, m, none⟩) hpb1 _).grown hg6 hsz2 (fun b e => (by have h9 : qb = b := (by simpa [Value.ownBlock] using e); omega)))
              have HU6 : Hid (us ++ [m] = (q ++ [m]).drop z ∧ z < (q ++ [m]).length) := Lib.hid ⟨by rw [List.drop_append_of_le_length (by omega), HU.out.1], by simp; omega⟩
              have HUU6 : Hid ((q ++ [m])[z]? = some u) := Lib.hid (by rw [List.getElem?_append_left hzq]; exact HUU.out)
              have hql2 : (us ++ [m]).length = us.length + 1 := by simp
              rw [← hql2]
              clear ho6 hg6 hn6 hq2
              go_wp2_with fail
              go_roundw
              case rel => exact ⟨m + 1, q ++ [m], us ++ [m], up1 par m u, A', c', by omega, by go_num, rfl, HU6, HUU6, HF2, HL6, HB6⟩
              case measure => simp [intOf]; omega
            · have d0 : decide (p < 0) = false := decide_eq_false hp0
              have HF2 := Lib.hid (HF.out.skip HUU.out hmn (.inl (by rw [HP.out]; omega)))
              go_wp2_with fail
              go_roundw
              case rel => exact ⟨m + 1, q, us, par, _, cq, by omega, by go_num, rfl, HU, HUU, HF2, HL, HB⟩
              case measure => simp [intOf]; omega
          · have d1 : decide (0 < x) = false := decide_eq_false hx0
            have HF2 := Lib.hid (HF.out.skip HUU.out hmn (.inr (show ¬ Roomy R u m by unfold Roomy; rw [HX.out]; exact hx0)))
            go_wp2_with fail
            go_roundw
            case rel => exact ⟨m + 1, q, us, par, _, cq, by omega, by go_num, rfl, HU, HUU, HF2, HL, HB⟩
            case measure => simp [intOf]; omega
        · obtain rfl : m = n := by omega
          have HF2 := Lib.hid (HF.out.next (Nat.le_refl _))
          obtain ⟨us', hus'⟩ : ∃ us', us' = q.drop (z + 1) := ⟨_, rfl⟩
          have hq3 := HQM.out.tail
          rw [← hus'] at hq3
          have hc := HCONS.out
          rw [← hus'] at hc
          subst hc
          have hcap := HL.out.qm.1
          simp only [List.length_map, List.length_cons] at hcap
          have c1 : (us'.length : Int) + 1 ≤ (cq : Int) := by omega
          have hds := HL.out.ds
          have HL2 : Hid (QLists 3 w.heap.size m (some ⟨pb, 0, none⟩) cp (if cq = 1 then some ⟨qb, qo, none⟩ else some ⟨qb, qo + 1, none⟩) (cq - 1) us' par W) := Lib.hid
            ⟨HL.out.pr, by simpa [Addr.add] using hq3, fun b hb => hds b (by split at hb <;> simpa [Value.ownBlock] using hb)⟩
          have HU2 : Hid (us' = q.drop (z + 1) ∧ z + 1 ≤ q.length) := Lib.hid ⟨hus', hzq⟩
          have hgk' : z + 1 + (gk - 1) = m := by have := HGK.out; omega
          have hgk2 : gk - 1 < gk := by have := HGK.out; omega
          have HG2 := Lib.hid hgk'
          clear hq3 hus' hds hgk' HF HL HU HUL
          by_cases hq1 : cq = 1
          · rw [if_pos hq1] at HL2
            subst hq1
            obtain rfl : us' = [] := List.eq_nil_of_length_eq_zero (by omega)
            go_wp2_with fail
            go_roundg (gk - 1)
            case measure => exact hgk2
            case rel => exact ⟨z + 1, q, [], par, _, 0, HG2.out, rfl, HU2, HF2, HL2, HB⟩
          · rw [if_neg hq1] at HL2
            go_wp2_with fail
            go_roundg (gk - 1)
            case measure => exact hgk2
            case rel => exact ⟨z + 1, q, us', par, _, cq - 1, HG2.out, rfl, HU2, HF2, HL2, HB⟩
    · have hz0 : us.length = 0 := by have := HUL.out; omega
      have HF2 := HF.out
      have hple : q.length ≤ z := by omega
      go_wp2_with fail
      go_ret
      exact ⟨_, cp, q, z, par, rfl, HL.out.pr, HF2, hple, HB.out⟩
end Go.Proofs.Ythknlonelbfpaaa
