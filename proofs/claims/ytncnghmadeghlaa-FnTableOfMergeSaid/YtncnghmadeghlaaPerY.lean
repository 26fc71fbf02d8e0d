/- The persons of the exact law: copied, marked. -/
import Derived.Test.YtncnghmadeghlaaPerX
import Derived.Deep.OwnRows
import Derived.Laws.MakeOwn
namespace Go.Proofs.Ytncnghmadeghlaa
open Go.RowKit
set_option linter.unusedVariables false
/-- the cells of persons -/
def cellP (F : Nat → Per) (j : Nat) : Value := if j % 4 = 0 then .int .i64 (F (j / 4)).area else if j % 4 = 1 then .int .i64 (F (j / 4)).job else if j % 4 = 2 then .int .i64 (F (j / 4)).sex else .int .i64 (F (j / 4)).pay
theorem cellP0 (F : Nat → Per) (k : Nat) : cellP F (k * 4) = .int .i64 (F k).area := by
  unfold cellP; rw [if_pos (by omega), show k * 4 / 4 = k by omega]
theorem cellP1 (F : Nat → Per) (k : Nat) : cellP F (k * 4 + 1) = .int .i64 (F k).job := by
  unfold cellP; rw [if_neg (by omega), if_pos (by omega), show (k * 4 + 1) / 4 = k by omega]
theorem cellP2 (F : Nat → Per) (k : Nat) : cellP F (k * 4 + 2) = .int .i64 (F k).sex := by
  unfold cellP; rw [if_neg (by omega), if_neg (by omega), if_pos (by omega), show (k * 4 + 2) / 4 = k by omega]
theorem cellP3 (F : Nat → Per) (k : Nat) : cellP F (k * 4 + 3) = .int .i64 (F k).pay := by
  unfold cellP; rw [if_neg (by omega), if_neg (by omega), if_neg (by omega), show (k * 4 + 3) / 4 = k by omega]
abbrev TP : TypeId := 40
theorem nfoP : (Try.prog.info? TP).map (fun i => (i.zero, i.size, i.bytes)) = some (some (.agg #[.int .i64 0, .int .i64 0, .int .i64 0, .int .i64 0]), 4, 32) := by kernel_rfl
def zP : Per := ⟨0, 0, 0, 0⟩
theorem run_make_per (n : Nat) (hn : n ≤ 1048576) (w : World) :
    (Instr.makeSlice 27 (.int .i64 (n : Int)) (.int .i64 (n : Int))).run Try.prog w = .ok (.slice (some ⟨w.heap.size, 0, none⟩) n n) (w.alloc (.cells (madeCells #[.int .i64 0, .int .i64 0, .int .i64 0, .int .i64 0] (n * 4)) TP)) := by
  obtain ⟨i, hi, hzz⟩ := Option.map_eq_some_iff.1 nfoP
  simp only [Prod.mk.injEq] at hzz
  obtain ⟨hz, hs, hb⟩ := hzz
  have h := run_make (P := Try.prog) w 27 TP i _ Try.underlying27 hi hz .i64 .i64 (n : Int) (n : Int) (by omega) (by omega) (by rw [hb]; omega) (by omega)
  rw [hs] at h
  simp only [Int.toNat_natCast] at h
  exact h
theorem row_made (w : World) (n : Nat) : (w.alloc (.cells (madeCells #[.int .i64 0, .int .i64 0, .int .i64 0, .int .i64 0] (n * 4)) TP)).rowIs w.heap.size TP (n * 4) (cellP fun _ => zP) := by
  have := World.rowIs_alloc w (madeCells #[.int .i64 0, .int .i64 0, .int .i64 0, .int .i64 0] (n * 4)) TP (cellP fun _ => zP) (fun i hi => by
    rw [size_madeCells] at hi
    have h4 : i % 4 = 0 ∨ i % 4 = 1 ∨ i % 4 = 2 ∨ i % 4 = 3 := by omega
    rcases h4 with h | h | h | h <;> simp [madeCells, cellP, hi, h, zP])
  rwa [size_madeCells] at this
theorem cellP_up {F : Nat → Per} {k : Nat} {a j s y : Int} : ∀ i, (if i = k * 4 + 3 then Value.int .i64 y else if i = k * 4 + 2 then .int .i64 s else if i = k * 4 + 1 then .int .i64 j else if i = k * 4 then .int .i64 a else cellP F i) = cellP (up1 F k ⟨a, j, s, y⟩) i := by
  intro i
  by_cases h : i / 4 = k
  · have h4 : i % 4 = 0 ∨ i % 4 = 1 ∨ i % 4 = 2 ∨ i % 4 = 3 := by omega
    unfold cellP
    rw [h]
    have e : up1 F k ⟨a, j, s, y⟩ k = ⟨a, j, s, y⟩ := by simp [up1]
    rw [e]
    rcases h4 with h4 | h4 | h4 | h4
    · rw [if_neg (by omega), if_neg (by omega), if_neg (by omega), if_pos (by omega), if_pos h4]
    · rw [if_neg (by omega), if_neg (by omega), if_pos (by omega), if_neg (by omega), if_pos h4]
    · rw [if_neg (by omega), if_pos (by omega), if_neg (by omega), if_neg (by omega), if_pos h4]
    · rw [if_pos (by omega), if_neg (by omega), if_neg (by omega), if_neg (by omega)]
  · rw [if_neg (by omega), if_neg (by omega), if_neg (by omega), if_neg (by omega)]
    unfold cellP
    rw [show up1 F k ⟨a, j, s, y⟩ (i / 4) = F (i / 4) by simp [up1, h]]
theorem row_put {w : World} {g n k : Nat} {F : Nat → Per} (h : w.rowIs g TP n (cellP F)) (a j s y : Int) :
    ((((w.setCell ⟨g, k * 4, none⟩ (.int .i64 a)).setCell ⟨g, k * 4 + 1, none⟩ (.int .i64 j)).setCell ⟨g, k * 4 + 2, none⟩ (.int .i64 s)).setCell ⟨g, k * 4 + 3, none⟩ (.int .i64 y)).rowIs g TP n (cellP (up1 F k ⟨a, j, s, y⟩)) :=
  ((((h.set (k * 4) _).set (k * 4 + 1) _).set (k * 4 + 2) _).set (k * 4 + 3) _).congr fun i _ => cellP_up i
theorem row_seq {w : World} {g n : Nat} {F : Nat → Per} (h : w.rowIs g TP (n * 4) (cellP F)) : SeqP w (some ⟨g, 0, none⟩) (mkL n F) := fun _ => by
  refine ⟨g, 0, rfl, h.lt, fun i p hp => ?_⟩
  have hi : i < n := by have := (List.getElem?_eq_some_iff.1 hp).1; rwa [mkL_len] at this
  rw [mkL_get _ hi] at hp
  injection hp with hp
  subst hp
  rw [Nat.zero_add]
  exact ⟨by rw [h.cell (by omega), cellP0], by rw [h.cell (by omega), cellP1], by rw [h.cell (by omega), cellP2], by rw [h.cell (by omega), cellP3]⟩
set_option maxHeartbeats 1000000 in
theorem toPersonS_any (A : Option Addr) (c : Nat) (ps : List Per) (w : World) (hx : SeqP w A ps) (hl : ps.length ≤ 1048576) :
    Calls Try.prog 17 #[.slice A ps.length c] w fun e w' => e = .returned (.slice (some ⟨w.heap.size, 0, none⟩) ps.length ps.length) ∧ w'.rowIs w.heap.size TP (ps.length * 4) (cellP fun i => if i < ps.length then ps[i]?.getD zP else zP) ∧ Below w.heap.size w w' := by
  have hmk := run_make_per ps.length hl
  have HR : Hid ((w.alloc (.cells (madeCells #[.int .i64 0, .int .i64 0, .int .i64 0, .int .i64 0] (ps.length * 4)) TP)).rowIs w.heap.size TP (ps.length * 4) (cellP fun i => if i < 0 then ps[i]?.getD zP else zP)) := Lib.hid ((row_made w ps.length).congr fun i _ => by simp)
  have HB : Hid (Below w.heap.size w (w.alloc (.cells (madeCells #[.int .i64 0, .int .i64 0, .int .i64 0, .int .i64 0] (ps.length * 4)) TP))) := Lib.hid ((Below.refl _ _).alloc (Nat.le_refl _) _)
  go_enter Try.func17, Try.ntmps17
  go_wp2_with fail
  go_loopw [4] (fun i wr => ∃ k : Nat, k ≤ ps.length ∧ i = .int .i64 k ∧ Hid (wr.rowIs w.heap.size TP (ps.length * 4) (cellP fun i => if i < k then ps[i]?.getD zP else zP)) ∧ Hid (Below w.heap.size w wr)) (fun i _ => ps.length - (intOf i).toNat)
  case atStart => exact ⟨0, Nat.zero_le _, rfl, HR, HB⟩
  case round =>
    clear HR HB hmk
    obtain ⟨k, hk, rfl, HR, HB⟩ := hrel
    obtain ⟨W, rfl⟩ : ∃ W : World, W = wr := ⟨_, rfl⟩
    by_cases hlt : k < ps.length
    · obtain ⟨b, o, ⟨a, j, s, y⟩, rfl, hbb, hpk, hc⟩ := (hx.below HB.out).at_ hlt
      obtain ⟨c0, c1, c2, c3⟩ := hc
      dsimp only at c0 c1 c2 c3
      have HE := Lib.hid (toPerson_any ⟨a, j, s, y⟩)
      go_wp2_with fail
      refine (HE.out _).mono ?_
      rintro e w9 ⟨rfl, hb9⟩
      obtain ⟨g, hg⟩ : ∃ g, w.heap.size = g := ⟨_, rfl⟩
      have h0 := HR.out.of_block (hb9.block w.heap.size HR.out.lt)
      rw [hg] at h0 ⊢
      have h1 := h0.set (k * 4) (.int .i64 a)
      have h2 := h1.set (k * 4 + 1) (.int .i64 j)
      have h3 := h2.set (k * 4 + 2) (.int .i64 s)
      have q0 := h0.cell (i := k * 4) (by omega)
      have q1 := h1.cell (i := k * 4 + 1) (by omega)
      have q2 := h2.cell (i := k * 4 + 2) (by omega)
      have q3 := h3.cell (i := k * 4 + 3) (by omega)
      have f0 := h0.frozen (k * 4)
      have f1 := h1.frozen (k * 4 + 1)
      have f2 := h2.frozen (k * 4 + 2)
      have f3 := h3.frozen (k * 4 + 3)
      have HR9 := Lib.hid (row_put (k := k) h0 a j s y)
      have HB9 : Hid (Below w.heap.size w ((((w9.setCell ⟨g, k * 4, none⟩ (.int .i64 a)).setCell ⟨g, k * 4 + 1, none⟩ (.int .i64 j)).setCell ⟨g, k * 4 + 2, none⟩ (.int .i64 s)).setCell ⟨g, k * 4 + 3, none⟩ (.int .i64 y))) := Lib.hid (((((HB.out.trans (hb9.mono HB.out.size)).setCell (by simp [hg]) _).setCell (by simp [hg]) _).setCell (by simp [hg]) _).setCell (by simp [hg]) _)
      have HG := Lib.hid hg
      have HPK := Lib.hid hpk
      clear h0 h1 h2 h3 hg hb9 hpk HR HB
      dsimp only [PV]
      go_wp2_with fail
      have HR2 : Hid (((((w9.setCell ⟨g, k * 4, none⟩ (.int .i64 a)).setCell ⟨g, k * 4 + 1, none⟩ (.int .i64 j)).setCell ⟨g, k * 4 + 2, none⟩ (.int .i64 s)).setCell ⟨g, k * 4 + 3, none⟩ (.int .i64 y)).rowIs g TP (ps.length * 4) (cellP fun i => if i < k + 1 then ps[i]?.getD zP else zP)) := Lib.hid (by
        have e : (fun i => if i < k + 1 then ps[i]?.getD zP else zP) = up1 (fun i => if i < k then ps[i]?.getD zP else zP) k ⟨a, j, s, y⟩ := by
          funext i
          unfold up1
          by_cases h : i = k
          · subst h; rw [if_pos (by omega), if_pos rfl, HPK.out]; rfl
          · rw [if_neg h]
            by_cases h2 : i < k
            · dsimp only
              rw [if_pos (by omega), if_pos h2]
            · dsimp only
              rw [if_neg (by omega), if_neg h2]
        rw [e]
        exact HR9.out)
      obtain rfl := HG.out
      go_roundw
      case rel => exact ⟨k + 1, by omega, by go_num, HR2, HB9⟩
      case measure => simp [intOf]; omega
    · obtain rfl : k = ps.length := by omega
      go_wp2_with fail
      go_ret
      exact ⟨rfl, HR.out, HB.out⟩
theorem mkL_own (ps : List Per) : (mkL ps.length fun i => if i < ps.length then ps[i]?.getD zP else zP) = ps := by
  apply List.ext_getElem?
  intro i
  by_cases h : i < ps.length
  · rw [mkL_get _ h, if_pos h, List.getElem?_eq_getElem h]; rfl
  · rw [List.getElem?_eq_none (by rw [mkL_len]; omega), List.getElem?_eq_none (by omega)]
set_option maxHeartbeats 1000000 in
theorem markPersonS_any (g n k0 : Nat) (F : Nat → Per) (w : World) (h : w.rowIs g TP (n * 4) (cellP F)) (hn : n ≤ 1048576) (hk0 : k0 ≤ 1048576) :
    Calls Try.prog 21 #[.slice (some ⟨g, 0, none⟩) n n, .int .i64 k0] w fun e w' => e = .returned (.int .i64 ((k0 + n * 4 : Nat) : Int)) ∧ (∃ F', w'.rowIs g TP (n * 4) (cellP F')) ∧ Turns g (g + 1) w w' := by
  have HR := Lib.hid h
  clear h
  go_enter Try.func21, Try.ntmps21
  go_wp2_with fail
  go_loopw [1, 5] (fun v i wr => ∃ (k : Nat) (F' : Nat → Per), k ≤ n ∧ i = .int .i64 k ∧ v = .int .i64 ((k0 + k * 4 : Nat) : Int) ∧ Hid (wr.rowIs g TP (n * 4) (cellP F')) ∧ Hid (Turns g (g + 1) w wr)) (fun _ i _ => n - (intOf i).toNat)
  case atStart => exact ⟨0, F, Nat.zero_le _, rfl, by simp, HR, Lib.hid (Turns.refl _ _ _)⟩
  case round =>
    clear HR
    obtain ⟨k, F', hk, rfl, rfl, HR, HT⟩ := hrel
    obtain ⟨W, rfl⟩ : ∃ W : World, W = wr := ⟨_, rfl⟩
    by_cases hlt : k < n
    · obtain ⟨m, hm⟩ : ∃ m : Nat, m = k0 + k * 4 := ⟨_, rfl⟩
      rw [← hm]
      have h0 := HR.out
      have h1 := h0.set (k * 4) (.int .i64 m)
      have h2 := h1.set (k * 4 + 1) (.int .i64 ((m : Int) + 1))
      have h3 := h2.set (k * 4 + 2) (.int .i64 ((m : Int) + 1 + 1))
      have q0 := h0.cell (i := k * 4) (by omega)
      have q1 := h1.cell (i := k * 4 + 1) (by omega)
      have q2 := h2.cell (i := k * 4 + 2) (by omega)
      have q3 := h3.cell (i := k * 4 + 3) (by omega)
      have f0 := h0.frozen (k * 4)
      have f1 := h1.frozen (k * 4 + 1)
      have f2 := h2.frozen (k * 4 + 2)
      have f3 := h3.frozen (k * 4 + 3)
      have HR9 := Lib.hid (row_put (k := k) h0 (m : Int) ((m : Int) + 1) ((m : Int) + 1 + 1) ((m : Int) + 1 + 1 + 1))
      have HT9 := Lib.hid ((((HT.out.setCell (p := ⟨g, k * 4, none⟩) (Nat.le_refl _) (Nat.lt_succ_self _) (.int .i64 (m : Int))).setCell (p := ⟨g, k * 4 + 1, none⟩) (Nat.le_refl _) (Nat.lt_succ_self _) (.int .i64 ((m : Int) + 1))).setCell (p := ⟨g, k * 4 + 2, none⟩) (Nat.le_refl _) (Nat.lt_succ_self _) (.int .i64 ((m : Int) + 1 + 1))).setCell (p := ⟨g, k * 4 + 3, none⟩) (Nat.le_refl _) (Nat.lt_succ_self _) (.int .i64 ((m : Int) + 1 + 1 + 1)))
      have hmb : m ≤ 8388608 := by omega
      have HM := Lib.hid hm
      clear h0 h1 h2 h3 HR HT hm
      go_wp2_with fail
      go_roundw
      case rel => exact ⟨k + 1, _, by omega, by go_num, by rw [HM.out]; go_num, HR9, HT9⟩
      case measure => simp [intOf]; omega
    · obtain rfl : k = n := by omega
      go_wp2_with fail
      go_ret
      exact ⟨rfl, ⟨F', HR.out⟩, HT.out⟩
end Go.Proofs.Ytncnghmadeghlaa
