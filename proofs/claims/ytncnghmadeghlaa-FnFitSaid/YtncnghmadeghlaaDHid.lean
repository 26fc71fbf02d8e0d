/- l92Mask: some mask is drawn in new memory. -/
import Derived.Test.YtncnghmadeghlaaDTable
import Derived.Test.YtncnghmadeghlaaMaskV
namespace Go.Proofs.Ytncnghmadeghlaa
open Go.RowKit
set_option linter.unusedVariables false
/-- one more row, made while one old block could turn -/
theorem Grow.pushG {α : Type} {f : α → Value} {T E : TypeId} {lo gg : Nat} {w0 w w' : World} {v v' u : Value} {vs : Nat → Value} {t : List (List α)} {r : List α} (h : Grow f T E lo w0 v vs t) (hb : w0.grownBy w (some gg)) (hgl : gg < lo) (ho : w.ownsRow w0.heap.size E 1 u r.length (r.map f)) (hlo : lo ≤ w0.heap.size)
    (hv : w'.ownsRow lo T 1 v' (t.length + 1) (mkL t.length vs ++ [u])) (hg : w.grownBy w' v.ownBlock) (hn : ∀ b, v'.ownBlock = some b → v.ownBlock = some b ∨ w.heap.size ≤ b) :
    Grow f T E lo w' v' (up1 vs t.length u) (t ++ [r]) := by
  have hsz := hb.size
  obtain ⟨w1, hw1⟩ : ∃ w1 : World, w1 = { w with heap := w.heap.extract 0 w0.heap.size } := ⟨_, rfl⟩
  have hs1 : w1.heap.size = w0.heap.size := by rw [hw1]; simp; omega
  have hget : ∀ b, b < w0.heap.size → w1.heap[b]? = w.heap[b]? := fun b hb' => by
    rw [hw1]
    simp [Array.getElem?_extract]
    omega
  have hkeep : ∀ b, b < w0.heap.size → lo ≤ b → w1.heap[b]? = w0.heap[b]? := fun b h1 h2 => (hget b h1).trans (hb.block b h1 (fun e => by injection e with e; omega))
  have hG : Grow f T E lo w1 v vs t := ⟨own_keep h.outer fun b hb' => hkeep b (h.outer.lt b hb').2 (h.outer.lt b hb').1, fun j q hq => own_keep (h.row j q hq) fun b hb' => hkeep b ((h.row j q hq).lt b hb').2 ((h.row j q hq).lt b hb').1, h.top, h.far⟩
  refine hG.push (w := w) ⟨by rw [hw1], by rw [hw1], by rw [hw1], by omega, fun k hk => (hget k (by omega)).symm⟩ (by rw [hs1]; exact ho) (by omega) hv hg hn
/-- what a draw of a mask leaves -/
def DrawnMask (w : World) (B g p : Nat) (e : Ending) (w' : World) : Prop :=
  ∃ A c m p' lo vs, e = .returned (.slice A (m : List (List Bool)).length c) ∧ Grow BoolV 60 4 lo w' (.slice A m.length c) vs m ∧ w.heap.size ≤ lo ∧ m.length ≤ 5 ∧ (∀ r ∈ m, r.length ≤ 5) ∧ Rd w' B g p' ∧ p' ≤ p + 40 ∧ w.grownBy w' (some g)
set_option maxHeartbeats 2000000 in
theorem l92Mask_any (B g p : Nat) (A : Option Addr) (c : Nat) (t : List (List Int)) (w : World) (hx : ∀ w', w.grownBy w' (some g) → Tab IntV w' A t) (ht : Short t) (hr : Rd w B g p) (hB : B ≤ w.heap.size) (hp : p ≤ 900000) :
    Calls Try.prog 89 #[.pointer (some ⟨g, 0, none⟩), .slice A t.length c] w (DrawnMask w B g p) := by
  have hgB := hr.lt
  have ht4 := ht.1
  have HT := Lib.hid ht
  have HX := Lib.hid hx
  have hr0 := hr.alloc hB (.cells #[] 60)
  have hst := Grow.start (f := BoolV) w 60 4 (fun _ => undef)
  have HST := Lib.hid hst
  have hg0 := World.grownBy_alloc w (.cells #[] 60) (some g)
  have HG0 := Lib.hid hg0
  clear hx ht hst hg0 hr
  go_enter Try.func89, Try.ntmps89
  go_wp2_with fail
  refine (pick_int B g p 3 _ hr0 (by omega) (by omega) (by omega)).mono ?_
  rintro e w1 ⟨k1, rfl, hk1, hr1, hg1, hz1⟩
  have HGR := Lib.hid (HST.out.kept hg1 (by omega))
  have HG1 := Lib.hid (HG0.out.trans hg1)
  have HR1 := Lib.hid hr1
  clear hr0 hr1 hg1 HST HG0
  go_wp2_with fail
  go_loopw [5, 7] (fun v i wr => ∃ (a : Nat) (Ao : Option Addr) (co : Nat) (vs : Nat → Value) (m : List (List Bool)) (q : Nat), a ≤ t.length ∧ i = .int .i64 a ∧ v = .slice Ao a co ∧ Hid (m.length = a ∧ ∀ r ∈ m, r.length ≤ 5) ∧ q ≤ p + 1 + a * 5 ∧ Hid (Grow BoolV 60 4 w.heap.size wr (.slice Ao a co) vs m) ∧ Hid (Rd wr B g q) ∧ Hid (w.grownBy wr (some g))) (fun _ i _ => t.length - (intOf i).toNat)
  case atStart => exact ⟨0, _, _, _, [], p + 1, Nat.zero_le _, rfl, rfl, Lib.hid ⟨rfl, fun r hr => by simp at hr⟩, by omega, HGR, HR1, HG1⟩
  case round =>
    clear HGR HR1 HG1
    obtain ⟨i, Ao, co, vs, m, q, hi', rfl, rfl, HM, hq, HGR, HR1, HG1⟩ := hrel
    obtain ⟨wo, rfl⟩ : ∃ wo : World, wo = wr := ⟨_, rfl⟩
    have hwo := HG1.out.size
    by_cases hi : i < t.length
    · obtain ⟨tb, tq, r, Ar, cr, rfl, htb, hrk, kr, -⟩ := (HX.out wo HG1.out).at_ hi
      have hr5 := (HT.out.2 r (List.mem_of_getElem? hrk)).1
      have HRK := Lib.hid hrk
      have HE : Hid ((wo.alloc (.cells #[] 4)).ownsRow wo.heap.size 4 1 (.slice (some ⟨wo.heap.size, 0, none⟩) 0 0) 0 (([] : List Bool).map BoolV)) := Lib.hid (own_empty wo _)
      have HGE : Hid (wo.grownBy (wo.alloc (.cells #[] 4)) (some g)) := Lib.hid (World.grownBy_alloc _ _ _)
      have HRE : Hid (Rd (wo.alloc (.cells #[] 4)) B g q) := Lib.hid (HR1.out.alloc (by omega) _)
      clear hrk kr htb HR1
      go_wp2_with fail
      go_loopw [8, 9] (fun v j wr => ∃ (a : Nat) (Aw : Option Addr) (cw : Nat) (bs : List Bool) (q2 : Nat), a ≤ r.length ∧ j = .int .i64 a ∧ v = .slice Aw a cw ∧ Hid (bs.length = a) ∧ q2 ≤ q + a ∧ Hid (wr.ownsRow wo.heap.size 4 1 (.slice Aw a cw) a (bs.map BoolV)) ∧ Hid (Rd wr B g q2) ∧ Hid (wo.grownBy wr (some g))) (fun _ j _ => r.length - (intOf j).toNat)
      case atStart => exact ⟨0, _, _, [], q, Nat.zero_le _, rfl, rfl, Lib.hid rfl, by omega, HE, HRE, HGE⟩
      case round =>
        clear HE HRE HGE
        obtain ⟨j, Aw, cw, bs, q2, hj', rfl, rfl, HBL, hq2, HW, HR2, HG2⟩ := hrel
        obtain ⟨W, rfl⟩ : ∃ W : World, W = wr := ⟨_, rfl⟩
        have hWz := HG2.out.size
        obtain ⟨tb', tq', r', Ar', cr', hA, htb, hrk, kr, -⟩ := (HX.out W (HG1.out.trans HG2.out)).at_ hi
        obtain ⟨rfl, rfl⟩ : tb' = tb ∧ tq' = tq := by injection hA with hA; injection hA with e1 e2; exact ⟨e1.symm, e2.symm⟩
        obtain rfl : r = r' := by have := HRK.out; rw [hrk] at this; injection this with this; exact this.symm
        have i1 : (i : Int) < (t.length : Int) := by omega
        clear hA hrk
        by_cases hj : j < r.length
        · have j1 : (j : Int) < (r.length : Int) := by omega
          have hq6 : q2 ≤ 900100 := by
            have : i * 5 ≤ 4 * 5 := Nat.mul_le_mul (by omega) (Nat.le_refl _)
            omega
          go_wp2_with fail
          refine (pick_int B g q2 3 _ HR2.out (by omega) (by omega) (by omega)).mono ?_
          rintro e w3 ⟨k3, rfl, hk3, hr3, hg3, hz3⟩
          have hg3' := HG2.out.trans hg3
          have hrow := HW.out.kept hg3 (.inr fun e => by have := (HW.out.lt _ e).1; omega)
          have hw3 := hg3.size
          have hsz : wo.heap.size ≤ w3.heap.size := by omega
          obtain ⟨bv, hbv⟩ : ∃ bv, decide ((k3 : Int) < 1 + (k1 : Int)) = bv := ⟨_, rfl⟩
          have HR3 := Lib.hid hr3
          have HG3 := Lib.hid hg3'
          have HROW := Lib.hid hrow
          clear hr3 hg3 hg3' HR2
          go_wp2_with (at_builtin; refine appV (.tmp 30) (.tmp 35) _ rfl (by rfl) w3 wo.heap.size 4 (.bool false) 1 Try.underlying60 nfoB rfl Aw j cw (bs.map BoolV) (by rw [List.length_map, HBL.out]) rfl HROW.out (.bool bv) (by rw [← hbv]; rfl) rfl (by omega) (by omega) hsz ?_)
          intro A' c' w6 ho6 hg6 hn6
          have HW6 : Hid (w6.ownsRow wo.heap.size 4 1 (.slice A' (j + 1) c') (j + 1) ((bs ++ [bv]).map BoolV)) := Lib.hid (by rw [List.map_append]; exact ho6)
          have HG6 : Hid (wo.grownBy w6 (some g)) := Lib.hid (grow_step HG3.out hg6 (fun k e => .inr ((hrow.lt k e).1)))
          have HR6 : Hid (Rd w6 B g (q2 + 1)) := Lib.hid (HR3.out.grown hg6 (by omega) (fun k e => by have := (hrow.lt k e).1; omega))
          have HBL6 : Hid ((bs ++ [bv]).length = j + 1) := Lib.hid (by rw [List.length_append, HBL.out]; rfl)
          clear ho6 hg6 hn6 hrow kr
          go_wp2_with fail
          go_roundw
          case rel => exact ⟨j + 1, A', c', bs ++ [bv], q2 + 1, by omega, by go_num, rfl, HBL6, by omega, HW6, HR6, HG6⟩
          case measure => simp [intOf]; omega
        · have hjr : j = r.length := by omega
          have hout := (HGR.out.kept HG2.out (by omega)).outer
          rw [HM.out.1] at hout
          have hsz : w.heap.size ≤ W.heap.size := by omega
          have hrow : W.ownsRow wo.heap.size 4 1 (.slice Aw j cw) bs.length (bs.map BoolV) := by rw [HBL.out]; exact HW.out
          have HROW := Lib.hid hrow
          have HOUT := Lib.hid hout
          have hj5 : j ≤ 5 := by omega
          have HMlen := HM.out.1
          have j1 : decide ((j : Int) < (r.length : Int)) = false := decide_eq_false (by omega)
          have HJR := Lib.hid hjr
          clear hjr hrow hout HMlen
          go_wp2_with (at_builtin; refine appV (.tmp 37) (.tmp 39) _ rfl (by rfl) W w.heap.size 60 (.slice none 0 0) 24 Try.underlying52 nfoBS rfl Ao i co (mkL i vs) (mkL_len _ _) rfl HOUT.out (.slice Aw j cw) rfl rfl (by omega) (by omega) hsz ?_)
          intro A2 c2 w6 ho6 hg6 hn6
          have hp := HGR.out.pushG HG2.out (by omega) HROW.out hwo (by rw [HM.out.1]; exact ho6) hg6 hn6
          have HP : Hid (Grow BoolV 60 4 w.heap.size w6 (.slice A2 (i + 1) c2) (up1 vs i (.slice Aw j cw)) (m ++ [bs])) := Lib.hid (by rw [HM.out.1] at hp; exact hp)
          have HM6 : Hid ((m ++ [bs]).length = i + 1 ∧ ∀ r ∈ m ++ [bs], r.length ≤ 5) := Lib.hid ⟨by rw [List.length_append, HM.out.1]; rfl, fun r hr => by
            rcases List.mem_append.1 hr with hr | hr
            · exact HM.out.2 r hr
            · simp at hr; subst hr; rw [HBL.out]; exact hj5⟩
          have HG6 : Hid (w.grownBy w6 (some g)) := Lib.hid (grow_step (HG1.out.trans HG2.out) hg6 (fun k e => .inr (HOUT.out.lt k e).1))
          have HR6 : Hid (Rd w6 B g q2) := Lib.hid (HR2.out.grown hg6 (by omega) (fun k e => by have := (HOUT.out.lt k e).1; omega))
          have hq2' : q2 ≤ p + 1 + (i + 1) * 5 := by omega
          clear hp ho6 hg6 hn6 kr
          go_wp2_with fail
          go_roundw
          case rel => exact ⟨i + 1, A2, c2, _, m ++ [bs], q2, by omega, by go_num, rfl, HM6, hq2', HP, HR6, HG6⟩
          case measure => simp [intOf]; omega
    · obtain rfl : i = t.length := by omega
      have hqq : q ≤ p + 21 := by
        have : t.length * 5 ≤ 4 * 5 := Nat.mul_le_mul (by omega) (Nat.le_refl _)
        omega
      go_wp2_with fail
      refine (pick_int B g q 30 _ HR1.out (by omega) (by omega) (by omega)).mono ?_
      rintro e w3 ⟨k3, rfl, hk3, hr3, hg3, hz3⟩
      have hG3 := HGR.out.kept hg3 (by omega)
      have hg03 := HG1.out.trans hg3
      have hw3 := hg3.size
      by_cases h3 : k3 = 0
      · subst h3
        have hout := hG3.outer
        rw [HM.out.1] at hout
        have HR3 := Lib.hid hr3
        have HG3 := Lib.hid hG3
        have HG03 := Lib.hid hg03
        have hs3 := hg03.size
        obtain ⟨w4, hw4⟩ : ∃ w4 : World, w4 = w3.alloc (.cells #[.bool true] 4) := ⟨_, rfl⟩
        have hrow : w4.ownsRow w3.heap.size 4 1 (.slice (some ⟨w3.heap.size, 0, none⟩) 1 1) ([true] : List Bool).length (([true] : List Bool).map BoolV) := by
          rw [hw4]; exact (Blk.new w3 4 #[.bool true]).own (xs := [.bool true]) (Nat.le_refl _) rfl (by unfold maxLen; simp)
        have hb4 : Below w3.heap.size w3 w4 := by rw [hw4]; exact (Below.refl _ _).alloc (Nat.le_refl _) _
        have hout4 := own_below hout hb4
        have hsz4 : w.heap.size ≤ w4.heap.size := by have := hb4.size; omega
        have HOUT := Lib.hid hout4
        have HROW := Lib.hid hrow
        have HB4 := Lib.hid hb4
        have HW4 := Lib.hid hw4
        clear hr3 hG3 hg03 hout hout4 hrow hb4 hw4
        go_wp2_with (at_builtin; refine appV (.tmp 44) (.tmp 46) _ rfl (by rfl) (w3.alloc (.cells #[.bool true] 4)) w.heap.size 60 (.slice none 0 0) 24 Try.underlying52 nfoBS rfl Ao t.length co (mkL t.length vs) (mkL_len _ _) rfl (by rw [← HW4.out]; exact HOUT.out) (.slice (some ⟨w3.heap.size, 0, none⟩) 1 1) (by simp; rfl) rfl (by omega) (by omega) (by rw [← HW4.out]; exact hsz4) ?_)
        intro A2 c2 w6 ho6 hg6 hn6
        rw [← HW4.out] at hg6
        have hgr4 : w3.grownBy w4 (some g) := by rw [HW4.out]; exact World.grownBy_alloc _ _ _
        have hml := HM.out.1
        have e46 : w4.heap.size = w3.heap.size + 1 := by rw [HW4.out]; exact Array.size_push _
        have hp := HG3.out.pushG hgr4 (by omega) HROW.out (by omega) (by rw [hml]; exact ho6) hg6 (fun b hb => (hn6 b hb).elim (fun h => .inl h) (fun h => .inr (by rw [e46]; exact h)))
        have hml2 : (m ++ [[true]]).length = t.length + 1 := by rw [List.length_append, hml]; rfl
        have hl2 : ∀ r ∈ m ++ [[true]], r.length ≤ 5 := fun r hr => by
          rcases List.mem_append.1 hr with hr | hr
          · exact HM.out.2 r hr
          · simp at hr; subst hr; simp
        have hgo : w.grownBy w6 (some g) := grow_step (HG03.out.trans hgr4) hg6 (fun k e => .inr (HOUT.out.lt k e).1)
        have hrd : Rd w6 B g (q + 1) := (HR3.out.alloc (by omega) _ : Rd (w3.alloc (.cells #[.bool true] 4)) B g (q + 1)).grown (by rw [← HW4.out]; exact hg6) (by rw [← HW4.out]; omega) (fun k e => by have := (HOUT.out.lt k e).1; omega)
        have HP := Lib.hid hp
        have HGO := Lib.hid hgo
        have HRD := Lib.hid hrd
        have HL2 := Lib.hid hl2
        clear hp hgo hrd hl2 ho6 hg6 hn6 hgr4
        go_wp2_with fail
        go_ret
        exact ⟨A2, c2, m ++ [[true]], q + 1, w.heap.size, _, by rw [hml2]; rfl, by rw [hml2]; have := HP.out; rw [hml] at this; exact this, Nat.le_refl _, by rw [hml2]; omega, HL2.out, HRD.out, by omega, HGO.out⟩
      · have h3' : ((k3 : Int) == 0) = false := beq_eq_false_iff_ne.2 (by omega)
        have HG3 := Lib.hid hG3
        have HR3 := Lib.hid hr3
        have HG03 := Lib.hid hg03
        clear hG3 hr3 hg03
        go_wp2_with fail
        go_ret
        have hml := HM.out.1
        exact ⟨Ao, co, m, q + 1, w.heap.size, vs, by rw [hml]; rfl, by rw [hml]; exact HG3.out, Nat.le_refl _, by omega, HM.out.2, HR3.out, by omega, HG03.out⟩
end Go.Proofs.Ytncnghmadeghlaa
