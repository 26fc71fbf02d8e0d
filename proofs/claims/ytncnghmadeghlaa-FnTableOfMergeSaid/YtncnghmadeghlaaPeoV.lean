/- PeopleValid: lists of people that are read. -/
import Derived.Test.YtncnghmadeghlaaPeo
import Derived.Deep.QuietTactic
import Derived.BigQuiet
namespace Go.Proofs.Ytncnghmadeghlaa
open Go.RowKit
set_option linter.unusedVariables false
/-- a person in four cells -/
def Cells4 (w : World) (b k : Nat) (p : Per) : Prop := w.cell? ⟨b, k, none⟩ = some (.int .i64 p.area) ∧ w.cell? ⟨b, k + 1, none⟩ = some (.int .i64 p.job) ∧ w.cell? ⟨b, k + 2, none⟩ = some (.int .i64 p.sex) ∧ w.cell? ⟨b, k + 3, none⟩ = some (.int .i64 p.pay)
/-- the slice reads as a list of people -/
def SeqP (w : World) (A : Option Addr) (ps : List Per) : Prop :=
  0 < ps.length → ∃ b o, A = some ⟨b, o, none⟩ ∧ b < w.heap.size ∧ ∀ (i : Nat) (p : Per), ps[i]? = some p → Cells4 w b (o + i * 4) p
section
variable {w w' : World} {A : Option Addr} {ps : List Per}
theorem Cells4.below {b k : Nat} {p : Per} {B : Nat} (h : Cells4 w b k p) (hb : Below B w w') (hl : b < B) : Cells4 w' b k p :=
  ⟨(hb.cell (p := ⟨b, k, none⟩) hl).trans h.1, (hb.cell (p := ⟨b, k + 1, none⟩) hl).trans h.2.1, (hb.cell (p := ⟨b, k + 2, none⟩) hl).trans h.2.2.1, (hb.cell (p := ⟨b, k + 3, none⟩) hl).trans h.2.2.2⟩
theorem SeqP.below (h : SeqP w A ps) (hb : Below w.heap.size w w') : SeqP w' A ps := fun hn => by
  obtain ⟨b, o, e, hl, hc⟩ := h hn
  exact ⟨b, o, e, Nat.lt_of_lt_of_le hl hb.size, fun i p hp => (hc i p hp).below hb hl⟩
theorem SeqP.at_ {k : Nat} (h : SeqP w A ps) (hk : k < ps.length) : ∃ b o p, A = some ⟨b, o, none⟩ ∧ b < w.heap.size ∧ ps[k]? = some p ∧ Cells4 w b (o + k * 4) p := by
  obtain ⟨b, o, e, hl, hc⟩ := h (by omega)
  exact ⟨b, o, ps[k], e, hl, List.getElem?_eq_getElem hk, hc k _ (List.getElem?_eq_getElem hk)⟩
end
def peoOk (ps : List Per) : Bool := ps.all perOk && decide (ps.length ≤ 40)
set_option maxHeartbeats 1000000 in
theorem specPeopleValid_any (A : Option Addr) (c : Nat) (ps : List Per) (w : World) (hx : SeqP w A ps) (hl : ps.length ≤ 1048576) :
    Calls Try.prog 44 #[.slice A ps.length c] w (Gives (.bool (peoOk ps)) w) := by
  go_enter Try.func44, Try.ntmps44
  go_wp2_with fail
  go_loopw [3] (fun i wr => ∃ k : Nat, k ≤ ps.length ∧ i = .int .i64 k ∧ Hid (ps.all perOk = (ps.drop k).all perOk) ∧ Hid (Below w.heap.size w wr)) (fun i _ => ps.length - (intOf i).toNat)
  case atStart => exact ⟨0, Nat.zero_le _, rfl, Lib.hid rfl, Lib.hid (Below.refl _ _)⟩
  case round =>
    obtain ⟨k, hk, rfl, HP, HB⟩ := hrel
    obtain ⟨W, rfl⟩ : ∃ W : World, W = wr := ⟨_, rfl⟩
    by_cases hlt : k < ps.length
    · obtain ⟨b, o, ⟨a, j, s, y⟩, rfl, hbb, hpk, hc⟩ := (hx.below HB.out).at_ hlt
      obtain ⟨c0, c1, c2, c3⟩ := hc
      dsimp only at c0 c1 c2 c3
      go_wp2_with fail
      refine (specPersonValid_any ⟨a, j, s, y⟩ _).mono ?_
      rintro e w' ⟨rfl, hb'⟩
      have HB2 := Lib.hid (HB.out.trans (hb'.mono HB.out.size))
      clear HB hb' c0 c1 c2 c3
      have hstep : (ps.drop k).all perOk = (perOk ⟨a, j, s, y⟩ && (ps.drop (k + 1)).all perOk) := by
        obtain ⟨h1, h2⟩ := List.getElem?_eq_some_iff.mp hpk
        rw [← h2, List.drop_eq_getElem_cons h1, List.all_cons]
      cases hv : perOk ⟨a, j, s, y⟩
      · have HF : Hid (peoOk ps = false) := Lib.hid (by
          show (ps.all perOk && _) = false
          rw [HP.out, hstep, hv]; rfl)
        clear hstep
        go_wp2_with fail
        go_ret
        exact ⟨by rw [HF.out]; rfl, HB2.out⟩
      · have HT : Hid (ps.all perOk = (ps.drop (k + 1)).all perOk) := Lib.hid (by
          rw [HP.out, hstep, hv]; rfl)
        clear hstep
        go_wp2_with fail
        exact ⟨⟨k + 1, hlt, rfl, HT, HB2⟩, by simp only [intOf]; omega⟩
    · obtain rfl : k = ps.length := by omega
      have HF : Hid (peoOk ps = decide ((ps.length : Int) ≤ 40)) := Lib.hid (by
        show (ps.all perOk && _) = _
        rw [HP.out, List.drop_length]
        exact decide_eq_decide.mpr (by omega))
      go_wp2_with fail
      go_ret
      exact ⟨by rw [HF.out]; rfl, HB.out⟩
set_option maxHeartbeats 1000000 in
theorem implPeopleValid_any (A : Option Addr) (c : Nat) (ps : List Per) (w : World) (hx : SeqP w A ps) (hl : ps.length ≤ 1048576) :
    Calls Try.prog 47 #[.slice A ps.length c] w (Gives (.bool (peoOk ps)) w) := by
  go_enter Try.func47, Try.ntmps47
  go_wp2_with fail
  go_loopw [7] (fun i wr => ∃ k : Nat, k ≤ ps.length ∧ i = .int .i64 k ∧ Hid (ps.all perOk = (ps.drop k).all perOk) ∧ Hid (Below w.heap.size w wr)) (fun i _ => ps.length - (intOf i).toNat)
  case atStart => exact ⟨0, Nat.zero_le _, rfl, Lib.hid rfl, Lib.hid (Below.refl _ _)⟩
  case round =>
    obtain ⟨k, hk, rfl, HP, HB⟩ := hrel
    obtain ⟨W, rfl⟩ : ∃ W : World, W = wr := ⟨_, rfl⟩
    by_cases hlt : k < ps.length
    · obtain ⟨b, o, ⟨a, j, s, y⟩, rfl, hbb, hpk, hc⟩ := (hx.below HB.out).at_ hlt
      obtain ⟨c0, c1, c2, c3⟩ := hc
      dsimp only at c0 c1 c2 c3
      go_wp2_with fail
      refine (implPersonValid_any ⟨a, j, s, y⟩ _).mono ?_
      rintro e w' ⟨rfl, hb'⟩
      have HB1 := HB.out.alloc HB.out.size (.cells #[.int .i64 a, .int .i64 j, .int .i64 s, .int .i64 y] 40)
      have HB2 := Lib.hid (HB1.trans (hb'.mono HB1.size))
      clear HB HB1 hb' c0 c1 c2 c3
      have hstep : (ps.drop k).all perOk = (perOk ⟨a, j, s, y⟩ && (ps.drop (k + 1)).all perOk) := by
        obtain ⟨h1, h2⟩ := List.getElem?_eq_some_iff.mp hpk
        rw [← h2, List.drop_eq_getElem_cons h1, List.all_cons]
      cases hv : perOk ⟨a, j, s, y⟩
      · have HF : Hid (peoOk ps = false) := Lib.hid (by
          show (ps.all perOk && _) = false
          rw [HP.out, hstep, hv]; rfl)
        clear hstep
        go_wp2_with fail
        go_ret
        exact ⟨by rw [HF.out]; rfl, HB2.out⟩
      · have HT : Hid (ps.all perOk = (ps.drop (k + 1)).all perOk) := Lib.hid (by
          rw [HP.out, hstep, hv]; rfl)
        clear hstep
        go_wp2_with fail
        exact ⟨⟨k + 1, hlt, rfl, HT, HB2⟩, by simp only [intOf]; omega⟩
    · obtain rfl : k = ps.length := by omega
      have HF : Hid (peoOk ps = decide ((ps.length : Int) ≤ 40)) := Lib.hid (by
        show (ps.all perOk && _) = _
        rw [HP.out, List.drop_length]
        exact decide_eq_decide.mpr (by omega))
      go_wp2_with fail
      go_ret
      exact ⟨by rw [HF.out]; rfl, HB.out⟩
end Go.Proofs.Ytncnghmadeghlaa
