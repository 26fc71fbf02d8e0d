/- Contracts of l12Sort and PartsTop of the reference. -/
import Derived.Test.YtloehocldbfbbaaTopW
import Derived.Deep.QuietTactic
import Derived.BigQuiet
import Derived.IntWalk
import Derived.OpenShut
namespace Go.Proofs.Ytloehocldbfbbaa
open Go.RowKit
set_option linter.unusedVariables false

theorem infoInt8 : (Try.prog.info? 3).map (fun i => (i.zero, i.size, i.bytes)) = some (some (.int .i64 0), 1, 8) := by kernel_rfl

/-- the list sorted, in new memory -/
def SortedNew (w : World) (xs : List Int) (e : Ending) (w' : World) : Prop :=
  ∃ A c ys, e = .returned (.slice A (ys : List Int).length c) ∧ ys = srt xs ∧ Lst IntV w' A c ys ∧ Below w.heap.size w w'

/-- the place at which a number goes into a descending list -/
def PlaceOf (us : List Int) (x : Int) (a : Nat) : Prop := ∀ j y, us[j]? = some y → a ≤ j → y < x
theorem place_ins {us : List Int} {x : Int} {a : Nat} (hd : Desc us) (h : PlaceOf us x a) (ha : a ≤ us.length) (hs : a = 0 ∨ ∃ y, us[a - 1]? = some y ∧ x ≤ y) : (us.take a ++ [x]) ++ us.drop a = ins x us := by
  have hd2 : Desc ((us.take a ++ [x]) ++ us.drop a) := by
    have hsplit : Desc (us.take a ++ us.drop a) := by rw [List.take_append_drop]; exact hd
    rw [List.append_assoc]
    refine List.pairwise_append.2 ⟨(List.pairwise_append.1 hsplit).1, ?_, ?_⟩
    · rw [List.singleton_append]
      refine List.pairwise_cons.2 ⟨fun z hz => ?_, (List.pairwise_append.1 hsplit).2.1⟩
      obtain ⟨j, hj⟩ := List.mem_iff_getElem?.1 hz
      rw [List.getElem?_drop] at hj
      have := h _ _ hj (by omega)
      omega
    · intro z hz u hu
      rw [List.singleton_append] at hu
      rcases List.mem_cons.1 hu with rfl | hu
      · rcases hs with rfl | ⟨y, hy, hxy⟩
        · simp at hz
        · obtain ⟨j, hj⟩ := List.mem_iff_getElem?.1 hz
          rw [List.getElem?_take] at hj
          split at hj
          · next hja =>
            have : y ≤ z := by
              rcases Nat.lt_or_ge j (a - 1) with hlt | hge
              · obtain ⟨h1, e1⟩ := List.getElem?_eq_some_iff.1 hj
                obtain ⟨h2, e2⟩ := List.getElem?_eq_some_iff.1 hy
                have := List.pairwise_iff_getElem.1 hd j (a - 1) h1 h2 hlt
                rw [e1, e2] at this
                exact this
              · obtain rfl : j = a - 1 := by omega
                rw [hj] at hy
                injection hy with hy
                omega
            omega
          · cases hj
      · exact (List.pairwise_append.1 hsplit).2.2 z hz u hu
  refine desc_unique hd2 (ins_desc hd) ?_
  refine List.Perm.trans ?_ (ins_perm x us).symm
  have h1 : ((us.take a ++ [x]) ++ us.drop a).Perm ([x] ++ us.take a ++ us.drop a) := List.Perm.append_right _ List.perm_append_comm
  refine h1.trans ?_
  rw [List.append_assoc, List.take_append_drop]
  exact List.Perm.refl _
theorem srt_take {xs : List Int} {k : Nat} {x : Int} (h : xs[k]? = some x) : srt (xs.take (k + 1)) = ins x (srt (xs.take k)) := by
  rw [take_snoc' h, srt_snoc]

set_option maxHeartbeats 1000000 in
theorem l12Sort_any (A : Option Addr) (c : Nat) (xs : List Int) (w : World) (hx : Seq IntV w A xs) (hl : xs.length ≤ 20) :
    Calls Try.prog 35 #[.slice A xs.length c] w (SortedNew w xs) := by
  go_enter Try.func35, Try.ntmps35
  go_wp2_with fail
  go_loopw [3, 4] (fun v i wr => ∃ (A1 : Option Addr) (c1 k : Nat) (us : List Int), k ≤ xs.length ∧ i = .int .i64 k ∧ v = .slice A1 us.length c1 ∧ Hid (us = srt (xs.take k)) ∧ us.length ≤ 20 ∧ Hid (Lst IntV wr A1 c1 us) ∧ Below w.heap.size w wr) (fun _ i _ => xs.length - (intOf i).toNat)
  case atStart => exact ⟨_, _, 0, [], by omega, rfl, rfl, Lib.hid (by simp [srt]), by simp, Lib.hid (Lst.of_own (own_empty w 3)), (Below.refl _ _).alloc (Nat.le_refl _) _⟩
  case round =>
    obtain ⟨A1, c1, k, us, hk, rfl, rfl, HU, hul, HL, hb⟩ := hrel
    obtain ⟨wo, rfl⟩ : ∃ wo : World, wo = wr := ⟨_, rfl⟩
    have hcap := HL.out.2.1
    by_cases hlt : k < xs.length
    · obtain ⟨b, o, x, rfl, hbb, hxk, hcell⟩ := (hx.below hb).at_ hlt
      have HX := Lib.hid hxk
      clear hxk
      go_wp2_with fail
      go_loopw [5] (fun v wi => ∃ a q : Nat, a ≤ us.length ∧ v = .int .i64 a ∧ Hid (PlaceOf us x a) ∧ wi = wo.drewN q) (fun v _ => (intOf v).toNat)
      case atStart => exact ⟨us.length, 0, Nat.le_refl _, rfl, Lib.hid (fun j y hj h => by have := (List.getElem?_eq_some_iff.1 hj).1; omega), rfl⟩
      case round =>
        obtain ⟨a, q, ha, rfl, HP, rfl⟩ := hrel
        by_cases h0 : a = 0
        · have h0' : decide ((0 : Int) < (a : Int)) = false := decide_eq_false (by omega)
          have h0'' : decide (0 < a) = false := decide_eq_false (by omega)
          have H0 := Lib.hid h0
          clear h0
          go_wp2
          go_quiet (fail)
          obtain ⟨w9, hw9⟩ : ∃ w9 : World, w9 = (wo.drewN q).drewN nq := ⟨_, rfl⟩
          have h9 : Below wo.heap.size wo w9 := by rw [hw9]; exact below_drewN (below_drewN (Below.refl _ _) q) nq
          have hL9 := HL.out.below h9
          have hc9 : w9.cell? ⟨b, o + k, none⟩ = some (IntV x) := (h9.cell (p := ⟨b, o + k, none⟩) hbb).trans hcell
          have hb9 := hb.trans (h9.mono hb.size)
          have hbb9 : b < w9.heap.size := by have := h9.size; omega
          rw [← hw9]
          have H9 := Lib.hid hL9
          clear hw9 h9 hcell hL9
          go_wp2_with (at_builtin; refine appFresh (f := IntV) (.tmp 32) (.tmp 35) _ rfl (by rfl) w9 3 (.int .i64 0) 8 Try.underlying23 infoInt8 rfl rfl A1 a c1 (us.take a) (by rw [List.length_take]; omega) rfl (H9.out.take (by omega)) (fun _ => rfl) (by omega) (by omega) ?_)
          intro A2 c2 ys w2 HY2 ho2 hb2
          have hy2 : ys.length ≤ 20 := by rw [HY2.out, List.length_take]; omega
          have hz2 := hb2.size
          have hc2 : w2.cell? ⟨b, o + k, none⟩ = some (IntV x) := (hb2.cell (p := ⟨b, o + k, none⟩) hbb9).trans hc9
          have hbb2 : b < w2.heap.size := by omega
          clear hc9
          go_wp2_with (at_builtin; refine appOne (f := IntV) (.tmp 37) (.tmp 42) _ rfl (by rfl) w2 w9.heap.size 3 (.int .i64 0) 8 Try.underlying23 infoInt8 rfl A2 _ c2 ys rfl rfl ho2 x rfl (fun _ => rfl) (by omega) (by omega) hz2 ?_)
          intro A3 c3 zs w3 HZ ho3 hb3
          have hzl : zs.length ≤ 21 := by rw [HZ.out]; simp; omega
          have hb93 := hb2.trans hb3
          have hz3 := hb93.size
          have HD := Lib.hid ((H9.out.below hb93).drop (k := a) (by omega))
          clear hc2
          go_wp2_with (at_builtin; refine appN (f := IntV) (.tmp 44) (.tmp 47) _ rfl (by rfl) w3 w9.heap.size 3 (.int .i64 0) 8 Try.underlying23 infoInt8 rfl A3 _ c3 zs rfl rfl ho3 _ (us.length - a) (c1 - a) (us.drop a) (by rw [List.length_drop]) rfl HD.out (fun _ => rfl) (by omega) (by omega) (by omega) hz3 ?_)
          all_goals
            intro A4 c4 vs w4 HVS ho4 hb4
            have hvs : vs = srt (xs.take (k + 1)) := by rw [HVS.out, HZ.out, HY2.out, place_ins (by rw [HU.out]; exact srt_desc _) HP.out (by omega) (.inl H0.out), srt_take HX.out, HU.out]
            have hvl : vs.length ≤ 20 := by rw [hvs, srt_len]; simp; omega
            have HVV := Lib.hid hvs
            clear hvs
            go_wp2_with fail
            go_roundw
            case rel => exact ⟨A4, c4, k + 1, vs, by omega, by go_num, rfl, HVV, hvl, Lib.hid (Lst.of_own ho4), hb9.trans ((hb93.trans hb4).mono hb9.size)⟩
            case measure => simp [intOf]; omega
        · obtain ⟨m, rfl⟩ : ∃ m, a = m + 1 := ⟨a - 1, by omega⟩
          obtain ⟨b1, o1, y, rfl, hb1, hyk, hcy⟩ := HL.out.1.at_ (k := m) (by omega)
          have hpos : decide ((0 : Int) < ((m + 1 : Nat) : Int)) = true := decide_eq_true (by omega)
          have HY := Lib.hid hyk
          clear hyk
          have g1 : IntKind.i64.wrap ((m : Int) + 1 - 1) = (m : Int) := IntWalk.i64_in _ (by omega) |>.trans (by omega)
          have g2 : (m : Int) < (us.length : Int) := by omega
          have g3 : (k : Int) < (xs.length : Int) := by omega
          by_cases hyx : y < x
          · go_wp2
            go_quiet (fail)
            go_wp2_with fail
            go_roundw
            case rel => exact ⟨m, _, by omega, by go_num, Lib.hid (fun j z hj h => by
              rcases Nat.lt_or_ge m j with h1 | h1
              · exact HP.out j z hj (by omega)
              · obtain rfl : j = m := by omega
                rw [HY.out] at hj
                injection hj with hj
                omega), rfl⟩
            case measure => simp [intOf]
          · have hyx' : decide (y < x) = false := by simpa using hyx
            go_wp2
            go_quiet (fail)
            obtain ⟨w9, hw9⟩ : ∃ w9 : World, w9 = (wo.drewN q).drewN nq := ⟨_, rfl⟩
            have h9 : Below wo.heap.size wo w9 := by rw [hw9]; exact below_drewN (below_drewN (Below.refl _ _) q) nq
            have hL9 := HL.out.below h9
            have hc9 : w9.cell? ⟨b, o + k, none⟩ = some (IntV x) := (h9.cell (p := ⟨b, o + k, none⟩) hbb).trans hcell
            have hb9 := hb.trans (h9.mono hb.size)
            have hbb9 : b < w9.heap.size := by have := h9.size; omega
            rw [← hw9]
            have H9 := Lib.hid hL9
            clear hw9 h9 hcell hL9
            go_wp2_with (at_builtin; refine appFresh (f := IntV) (.tmp 32) (.tmp 35) _ rfl (by rfl) w9 3 (.int .i64 0) 8 Try.underlying23 infoInt8 rfl rfl (some ⟨b1, o1, none⟩) (m + 1) c1 (us.take (m + 1)) (by rw [List.length_take]; omega) rfl (H9.out.take (by omega)) (fun _ => rfl) (by omega) (by omega) ?_)
            intro A2 c2 ys w2 HY2 ho2 hb2
            have hy2 : ys.length ≤ 20 := by rw [HY2.out, List.length_take]; omega
            have hz2 := hb2.size
            have hc2 : w2.cell? ⟨b, o + k, none⟩ = some (IntV x) := (hb2.cell (p := ⟨b, o + k, none⟩) hbb9).trans hc9
            have hbb2 : b < w2.heap.size := by omega
            clear hc9
            go_wp2_with (at_builtin; refine appOne (f := IntV) (.tmp 37) (.tmp 42) _ rfl (by rfl) w2 w9.heap.size 3 (.int .i64 0) 8 Try.underlying23 infoInt8 rfl A2 _ c2 ys rfl rfl ho2 x rfl (fun _ => rfl) (by omega) (by omega) hz2 ?_)
            intro A3 c3 zs w3 HZ ho3 hb3
            have hzl : zs.length ≤ 21 := by rw [HZ.out]; simp; omega
            have hb93 := hb2.trans hb3
            have hz3 := hb93.size
            have HD := Lib.hid ((H9.out.below hb93).drop (k := (m + 1)) (by omega))
            clear hc2
            go_wp2_with (at_builtin; refine appN (f := IntV) (.tmp 44) (.tmp 47) _ rfl (by rfl) w3 w9.heap.size 3 (.int .i64 0) 8 Try.underlying23 infoInt8 rfl A3 _ c3 zs rfl rfl ho3 _ (us.length - (m + 1)) (c1 - (m + 1)) (us.drop (m + 1)) (by rw [List.length_drop]) rfl HD.out (fun _ => rfl) (by omega) (by omega) (by omega) hz3 ?_)
            all_goals
              intro A4 c4 vs w4 HVS ho4 hb4
              have hvs : vs = srt (xs.take (k + 1)) := by rw [HVS.out, HZ.out, HY2.out, place_ins (by rw [HU.out]; exact srt_desc _) HP.out (by omega) (.inr ⟨y, HY.out, by omega⟩), srt_take HX.out, HU.out]
              have hvl : vs.length ≤ 20 := by rw [hvs, srt_len]; simp; omega
              have HVV := Lib.hid hvs
              clear hvs
              go_wp2_with fail
              go_roundw
              case rel => exact ⟨A4, c4, k + 1, vs, by omega, by go_num, rfl, HVV, hvl, Lib.hid (Lst.of_own ho4), hb9.trans ((hb93.trans hb4).mono hb9.size)⟩
              case measure => simp [intOf]; omega
    · go_wp2_with fail
      go_ret
      exact ⟨A1, c1, us, rfl, by rw [HU.out, List.take_of_length_le (by omega)], HL.out, hb⟩
end Go.Proofs.Ytloehocldbfbbaa
