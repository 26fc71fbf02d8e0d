/- PeopleMany of the program, for any sex. -/
import Derived.Test.YtncnghmadeghlaaOwnP
namespace Go.Proofs.Ytncnghmadeghlaa
open Go.RowKit
set_option linter.unusedVariables false
def isP (a j : Int) (p : Per) : Bool := (a == -1 || p.area == a) && (j == -1 || p.job == j)
def cntQ (ps : List Per) (a j : Int) : Nat := ps.countP (isP a j)
/-- a code or any -/
def Ask (a : Int) : Prop := a = -1 ∨ (0 ≤ a ∧ a ≤ 3)
/-- while persons are selected -/
structure SelR (w : World) (ps : List Per) (a j : Int) (k n : Nat) (A : Option Addr) (c : Nat) (W : World) : Prop where
  own : OwnP W w.heap.size A n c ((ps.take k).filter (isP a j))
  bel : Below w.heap.size w W
theorem sel_len {w W : World} {ps : List Per} {a j : Int} {k n c : Nat} {A : Option Addr} (h : SelR w ps a j k n A c W) : n = cntQ (ps.take k) a j := by
  rw [cntQ, List.countP_eq_length_filter]; exact h.own.2.symm
theorem sel_yes {w W w9 : World} {ps : List Per} {a j : Int} {k n c c9 : Nat} {A A9 : Option Addr} {q : Per} (h : SelR w ps a j k n A c W) (hpk : ps[k]? = some q) (hm : isP a j q = true) (o : Obj) (hown : OwnP (W.alloc o) w.heap.size A n c ((ps.take k).filter (isP a j)))
    (ho : OwnP w9 w.heap.size A9 (n + 1) c9 ((ps.take k).filter (isP a j) ++ [q])) (hg : (W.alloc o).grownBy w9 (Value.slice A n c).ownBlock) : SelR w ps a j (k + 1) (n + 1) A9 c9 w9 := by
  refine ⟨?_, (h.bel.alloc h.bel.size o).grown hg (by have := h.bel.size; simp; omega) fun x hx => (hown.1.lt x hx).1⟩
  rw [take_snoc' hpk, List.filter_append, List.filter_cons_of_pos hm, List.filter_nil]
  exact ho
theorem sel_no {w W : World} {ps : List Per} {a j : Int} {k n c : Nat} {A : Option Addr} {q : Per} (h : SelR w ps a j k n A c W) (hpk : ps[k]? = some q) (hm : isP a j q = false) (o : Obj) : SelR w ps a j (k + 1) n A c (W.alloc o) := by
  refine ⟨?_, h.bel.alloc h.bel.size o⟩
  rw [take_snoc' hpk, List.filter_append, List.filter_cons_of_neg (by rw [hm]; simp), List.filter_nil, List.append_nil]
  exact h.own.below ((Below.refl _ _).alloc (Nat.le_refl _) _)
set_option maxHeartbeats 4000000 in
set_option maxRecDepth 100000 in
theorem selected_any (A : Option Addr) (c : Nat) (ps : List Per) (a j : Int) (w : World) (hx : SeqP w A ps) (hok : peoOk ps = true) (ha : Ask a) (hj : Ask j) :
    Calls Try.prog 64 #[.slice A ps.length c, .int .i64 a, .int .i64 j, .int .i64 (-1)] w fun e w' => ∃ B d, e = .returned (.tuple #[.slice B (cntQ ps a j) d, .bool true]) ∧ Below w.heap.size w w' := by
  have h40 := peoOk_len hok
  have hc := implPeopleValid_any A c ps w hx (by omega)
  rw [hok] at hc
  have HC := Lib.hid hc
  have HX := Lib.hid hx
  have HA : a ≠ -1 → inB a 0 3 = true := fun h => inB_yes (by rcases ha with h2 | h2 <;> omega) (by rcases ha with h2 | h2 <;> omega)
  have HJ : j ≠ -1 → inB j 0 3 = true := fun h => inB_yes (by rcases hj with h2 | h2 <;> omega) (by rcases hj with h2 | h2 <;> omega)
  have hia := isCode_any a
  have hij := isCode_any j
  clear hc hx ha hj hok
  have hloop : ∀ W, Below w.heap.size w W → SelR w ps a j 0 0 none 0 W := fun W hb => ⟨ownP_none _ _, hb⟩
  have HL := Lib.hid hloop
  clear hloop
  by_cases ea : a = -1
  · have ea' : (a == -1) = true := by simp [ea]
    have ea2 : (a != -1) = false := by simp [ea]
    by_cases ej : j = -1
    · have ej' : (j == -1) = true := by simp [ej]
      have ej2 : (j != -1) = false := by simp [ej]
      as_aux_lemma =>
        have HIA := Lib.hid hia
        have HIJ := Lib.hid hij
        clear HA HJ hia hij ea ej
        go_enter Try.func64, Try.ntmps64
        go_wp2_with fail
        refine HC.out.mono ?_
        rintro e w1 ⟨rfl, hb1⟩
        have HST := Lib.hid (HL.out w1 hb1)
        clear hb1
        go_wp2_with fail
        go_loopw [10, 45] (fun v i wr => ∃ (k n : Nat) (B : Option Addr) (d : Nat), k ≤ ps.length ∧ i = .int .i64 k ∧ v = .slice B n d ∧ Hid (SelR w ps a j k n B d wr)) (fun _ i _ => ps.length - (intOf i).toNat)
        case atStart => exact ⟨0, 0, none, 0, Nat.zero_le _, rfl, rfl, HST⟩
        case round =>
          clear HST
          obtain ⟨k, n, B, d, hk, rfl, rfl, HP⟩ := hrel
          obtain ⟨W, rfl⟩ : ∃ W : World, W = wr := ⟨_, rfl⟩
          have hn40 : n ≤ 40 := by
            have h1 := sel_len HP.out
            have h2 := List.countP_le_length (p := isP a j) (l := ps.take k)
            have h3 : (ps.take k).length = min k ps.length := List.length_take
            unfold cntQ at h1; omega
          by_cases hlt : k < ps.length
          · obtain ⟨b, o, ⟨pa, pj, s, y⟩, rfl, hbb, hpk, hc⟩ := (HX.out.below HP.out.bel).at_ hlt
            obtain ⟨c0, c1, c2, c3⟩ := hc
            dsimp only at c0 c1 c2 c3
            have HPK := Lib.hid hpk
            clear hpk
            have HM : Hid (isP a j ⟨pa, pj, s, y⟩ = true) := Lib.hid (by simp only [isP]; rw [ea', ej']; rfl)
            have HO3 := Lib.hid (HP.out.own.below ((Below.refl _ _).alloc (Nat.le_refl _) (.cells #[.int .i64 pa, .int .i64 pj, .int .i64 s, .int .i64 y] TP)))
            go_wp2_with (at_builtin; refine appP1s (.tmp 77) (.tmp 79) _ rfl (by rfl) (W.alloc (.cells #[.int .i64 pa, .int .i64 pj, .int .i64 s, .int .i64 y] TP)) _ (by simp) w.heap.size Try.underlying27 B n d _ rfl HO3.out pa pj s y rfl (by omega) (by have := HP.out.bel.size; simp; omega) ?_; intro A9 c9 w9 ho9 hg9)
            have HP9 := Lib.hid (sel_yes HP.out HPK.out HM.out (.cells #[.int .i64 pa, .int .i64 pj, .int .i64 s, .int .i64 y] TP) HO3.out ho9 hg9)
            clear ho9 hg9
            go_wp2_with fail
            go_roundw
            case rel => exact ⟨k + 1, n + 1, A9, c9, by omega, by go_num, rfl, HP9⟩
            case measure => simp [intOf]; omega
          · obtain rfl : k = ps.length := by omega
            have hn := sel_len HP.out
            rw [List.take_length] at hn
            have HN := Lib.hid hn
            clear hn
            go_wp2_with fail
            go_ret2
            rw [← HN.out]
            exact ⟨B, d, rfl, HP.out.bel⟩
    · have ej' : (j == -1) = false := by simp [ej]
      have ej2 : (j != -1) = true := by simp [ej]
      as_aux_lemma =>
        rw [HJ ej] at hij
        have HIA := Lib.hid hia
        have HIJ := Lib.hid hij
        clear HA HJ hia hij ea ej
        go_enter Try.func64, Try.ntmps64
        go_wp2_with fail
        refine HC.out.mono ?_
        rintro e w1 ⟨rfl, hb1⟩
        have HST := Lib.hid (HL.out w1 hb1)
        clear hb1
        go_wp2_with fail
        refine (HIJ.out _).mono ?_
        rintro e w2 ⟨rfl, rfl⟩
        go_wp2_with fail
        go_loopw [10, 45] (fun v i wr => ∃ (k n : Nat) (B : Option Addr) (d : Nat), k ≤ ps.length ∧ i = .int .i64 k ∧ v = .slice B n d ∧ Hid (SelR w ps a j k n B d wr)) (fun _ i _ => ps.length - (intOf i).toNat)
        case atStart => exact ⟨0, 0, none, 0, Nat.zero_le _, rfl, rfl, HST⟩
        case round =>
          clear HST
          obtain ⟨k, n, B, d, hk, rfl, rfl, HP⟩ := hrel
          obtain ⟨W, rfl⟩ : ∃ W : World, W = wr := ⟨_, rfl⟩
          have hn40 : n ≤ 40 := by
            have h1 := sel_len HP.out
            have h2 := List.countP_le_length (p := isP a j) (l := ps.take k)
            have h3 : (ps.take k).length = min k ps.length := List.length_take
            unfold cntQ at h1; omega
          by_cases hlt : k < ps.length
          · obtain ⟨b, o, ⟨pa, pj, s, y⟩, rfl, hbb, hpk, hc⟩ := (HX.out.below HP.out.bel).at_ hlt
            obtain ⟨c0, c1, c2, c3⟩ := hc
            dsimp only at c0 c1 c2 c3
            have HPK := Lib.hid hpk
            clear hpk
            by_cases u2 : pj = j
            · have v2 : (pj == j) = true := by simp [u2]
              clear u2
              have HM : Hid (isP a j ⟨pa, pj, s, y⟩ = true) := Lib.hid (by simp only [isP]; rw [ea', ej', v2]; rfl)
              have HO3 := Lib.hid (HP.out.own.below ((Below.refl _ _).alloc (Nat.le_refl _) (.cells #[.int .i64 pa, .int .i64 pj, .int .i64 s, .int .i64 y] TP)))
              go_wp2_with (at_builtin; refine appP1s (.tmp 77) (.tmp 79) _ rfl (by rfl) (W.alloc (.cells #[.int .i64 pa, .int .i64 pj, .int .i64 s, .int .i64 y] TP)) _ (by simp) w.heap.size Try.underlying27 B n d _ rfl HO3.out pa pj s y rfl (by omega) (by have := HP.out.bel.size; simp; omega) ?_; intro A9 c9 w9 ho9 hg9)
              have HP9 := Lib.hid (sel_yes HP.out HPK.out HM.out (.cells #[.int .i64 pa, .int .i64 pj, .int .i64 s, .int .i64 y] TP) HO3.out ho9 hg9)
              clear ho9 hg9
              go_wp2_with fail
              go_roundw
              case rel => exact ⟨k + 1, n + 1, A9, c9, by omega, by go_num, rfl, HP9⟩
              case measure => simp [intOf]; omega
            · have v2 : (pj == j) = false := by simp [u2]
              clear u2
              have HM : Hid (isP a j ⟨pa, pj, s, y⟩ = false) := Lib.hid (by simp only [isP]; rw [ea', ej', v2]; rfl)
              have HP9 := Lib.hid (sel_no HP.out HPK.out HM.out (.cells #[.int .i64 pa, .int .i64 pj, .int .i64 s, .int .i64 y] TP))
              go_wp2_with fail
              go_roundw
              case rel => exact ⟨k + 1, n, B, d, by omega, by go_num, rfl, HP9⟩
              case measure => simp [intOf]; omega
          · obtain rfl : k = ps.length := by omega
            have hn := sel_len HP.out
            rw [List.take_length] at hn
            have HN := Lib.hid hn
            clear hn
            go_wp2_with fail
            go_ret2
            rw [← HN.out]
            exact ⟨B, d, rfl, HP.out.bel⟩
  · have ea' : (a == -1) = false := by simp [ea]
    have ea2 : (a != -1) = true := by simp [ea]
    by_cases ej : j = -1
    · have ej' : (j == -1) = true := by simp [ej]
      have ej2 : (j != -1) = false := by simp [ej]
      as_aux_lemma =>
        rw [HA ea] at hia
        have HIA := Lib.hid hia
        have HIJ := Lib.hid hij
        clear HA HJ hia hij ea ej
        go_enter Try.func64, Try.ntmps64
        go_wp2_with fail
        refine HC.out.mono ?_
        rintro e w1 ⟨rfl, hb1⟩
        have HST := Lib.hid (HL.out w1 hb1)
        clear hb1
        go_wp2_with fail
        refine (HIA.out _).mono ?_
        rintro e w2 ⟨rfl, rfl⟩
        go_wp2_with fail
        go_loopw [10, 45] (fun v i wr => ∃ (k n : Nat) (B : Option Addr) (d : Nat), k ≤ ps.length ∧ i = .int .i64 k ∧ v = .slice B n d ∧ Hid (SelR w ps a j k n B d wr)) (fun _ i _ => ps.length - (intOf i).toNat)
        case atStart => exact ⟨0, 0, none, 0, Nat.zero_le _, rfl, rfl, HST⟩
        case round =>
          clear HST
          obtain ⟨k, n, B, d, hk, rfl, rfl, HP⟩ := hrel
          obtain ⟨W, rfl⟩ : ∃ W : World, W = wr := ⟨_, rfl⟩
          have hn40 : n ≤ 40 := by
            have h1 := sel_len HP.out
            have h2 := List.countP_le_length (p := isP a j) (l := ps.take k)
            have h3 : (ps.take k).length = min k ps.length := List.length_take
            unfold cntQ at h1; omega
          by_cases hlt : k < ps.length
          · obtain ⟨b, o, ⟨pa, pj, s, y⟩, rfl, hbb, hpk, hc⟩ := (HX.out.below HP.out.bel).at_ hlt
            obtain ⟨c0, c1, c2, c3⟩ := hc
            dsimp only at c0 c1 c2 c3
            have HPK := Lib.hid hpk
            clear hpk
            by_cases u1 : pa = a
            · have v1 : (pa == a) = true := by simp [u1]
              clear u1
              have HM : Hid (isP a j ⟨pa, pj, s, y⟩ = true) := Lib.hid (by simp only [isP]; rw [ea', ej', v1]; rfl)
              have HO3 := Lib.hid (HP.out.own.below ((Below.refl _ _).alloc (Nat.le_refl _) (.cells #[.int .i64 pa, .int .i64 pj, .int .i64 s, .int .i64 y] TP)))
              go_wp2_with (at_builtin; refine appP1s (.tmp 77) (.tmp 79) _ rfl (by rfl) (W.alloc (.cells #[.int .i64 pa, .int .i64 pj, .int .i64 s, .int .i64 y] TP)) _ (by simp) w.heap.size Try.underlying27 B n d _ rfl HO3.out pa pj s y rfl (by omega) (by have := HP.out.bel.size; simp; omega) ?_; intro A9 c9 w9 ho9 hg9)
              have HP9 := Lib.hid (sel_yes HP.out HPK.out HM.out (.cells #[.int .i64 pa, .int .i64 pj, .int .i64 s, .int .i64 y] TP) HO3.out ho9 hg9)
              clear ho9 hg9
              go_wp2_with fail
              go_roundw
              case rel => exact ⟨k + 1, n + 1, A9, c9, by omega, by go_num, rfl, HP9⟩
              case measure => simp [intOf]; omega
            · have v1 : (pa == a) = false := by simp [u1]
              clear u1
              have HM : Hid (isP a j ⟨pa, pj, s, y⟩ = false) := Lib.hid (by simp only [isP]; rw [ea', v1]; rfl)
              have HP9 := Lib.hid (sel_no HP.out HPK.out HM.out (.cells #[.int .i64 pa, .int .i64 pj, .int .i64 s, .int .i64 y] TP))
              go_wp2_with fail
              go_roundw
              case rel => exact ⟨k + 1, n, B, d, by omega, by go_num, rfl, HP9⟩
              case measure => simp [intOf]; omega
          · obtain rfl : k = ps.length := by omega
            have hn := sel_len HP.out
            rw [List.take_length] at hn
            have HN := Lib.hid hn
            clear hn
            go_wp2_with fail
            go_ret2
            rw [← HN.out]
            exact ⟨B, d, rfl, HP.out.bel⟩
    · have ej' : (j == -1) = false := by simp [ej]
      have ej2 : (j != -1) = true := by simp [ej]
      as_aux_lemma =>
        rw [HA ea] at hia
        rw [HJ ej] at hij
        have HIA := Lib.hid hia
        have HIJ := Lib.hid hij
        clear HA HJ hia hij ea ej
        go_enter Try.func64, Try.ntmps64
        go_wp2_with fail
        refine HC.out.mono ?_
        rintro e w1 ⟨rfl, hb1⟩
        have HST := Lib.hid (HL.out w1 hb1)
        clear hb1
        go_wp2_with fail
        refine (HIA.out _).mono ?_
        rintro e w2 ⟨rfl, rfl⟩
        go_wp2_with fail
        refine (HIJ.out _).mono ?_
        rintro e w2 ⟨rfl, rfl⟩
        go_wp2_with fail
        go_loopw [10, 45] (fun v i wr => ∃ (k n : Nat) (B : Option Addr) (d : Nat), k ≤ ps.length ∧ i = .int .i64 k ∧ v = .slice B n d ∧ Hid (SelR w ps a j k n B d wr)) (fun _ i _ => ps.length - (intOf i).toNat)
        case atStart => exact ⟨0, 0, none, 0, Nat.zero_le _, rfl, rfl, HST⟩
        case round =>
          clear HST
          obtain ⟨k, n, B, d, hk, rfl, rfl, HP⟩ := hrel
          obtain ⟨W, rfl⟩ : ∃ W : World, W = wr := ⟨_, rfl⟩
          have hn40 : n ≤ 40 := by
            have h1 := sel_len HP.out
            have h2 := List.countP_le_length (p := isP a j) (l := ps.take k)
            have h3 : (ps.take k).length = min k ps.length := List.length_take
            unfold cntQ at h1; omega
          by_cases hlt : k < ps.length
          · obtain ⟨b, o, ⟨pa, pj, s, y⟩, rfl, hbb, hpk, hc⟩ := (HX.out.below HP.out.bel).at_ hlt
            obtain ⟨c0, c1, c2, c3⟩ := hc
            dsimp only at c0 c1 c2 c3
            have HPK := Lib.hid hpk
            clear hpk
            by_cases u1 : pa = a
            · have v1 : (pa == a) = true := by simp [u1]
              clear u1
              by_cases u2 : pj = j
              · have v2 : (pj == j) = true := by simp [u2]
                clear u2
                have HM : Hid (isP a j ⟨pa, pj, s, y⟩ = true) := Lib.hid (by simp only [isP]; rw [ea', ej', v2, v1]; rfl)
                have HO3 := Lib.hid (HP.out.own.below ((Below.refl _ _).alloc (Nat.le_refl _) (.cells #[.int .i64 pa, .int .i64 pj, .int .i64 s, .int .i64 y] TP)))
                go_wp2_with (at_builtin; refine appP1s (.tmp 77) (.tmp 79) _ rfl (by rfl) (W.alloc (.cells #[.int .i64 pa, .int .i64 pj, .int .i64 s, .int .i64 y] TP)) _ (by simp) w.heap.size Try.underlying27 B n d _ rfl HO3.out pa pj s y rfl (by omega) (by have := HP.out.bel.size; simp; omega) ?_; intro A9 c9 w9 ho9 hg9)
                have HP9 := Lib.hid (sel_yes HP.out HPK.out HM.out (.cells #[.int .i64 pa, .int .i64 pj, .int .i64 s, .int .i64 y] TP) HO3.out ho9 hg9)
                clear ho9 hg9
                go_wp2_with fail
                go_roundw
                case rel => exact ⟨k + 1, n + 1, A9, c9, by omega, by go_num, rfl, HP9⟩
                case measure => simp [intOf]; omega
              · have v2 : (pj == j) = false := by simp [u2]
                clear u2
                have HM : Hid (isP a j ⟨pa, pj, s, y⟩ = false) := Lib.hid (by simp only [isP]; rw [ea', ej', v2, v1]; rfl)
                have HP9 := Lib.hid (sel_no HP.out HPK.out HM.out (.cells #[.int .i64 pa, .int .i64 pj, .int .i64 s, .int .i64 y] TP))
                go_wp2_with fail
                go_roundw
                case rel => exact ⟨k + 1, n, B, d, by omega, by go_num, rfl, HP9⟩
                case measure => simp [intOf]; omega
            · have v1 : (pa == a) = false := by simp [u1]
              clear u1
              have HM : Hid (isP a j ⟨pa, pj, s, y⟩ = false) := Lib.hid (by simp only [isP]; rw [ea', v1]; rfl)
              have HP9 := Lib.hid (sel_no HP.out HPK.out HM.out (.cells #[.int .i64 pa, .int .i64 pj, .int .i64 s, .int .i64 y] TP))
              go_wp2_with fail
              go_roundw
              case rel => exact ⟨k + 1, n, B, d, by omega, by go_num, rfl, HP9⟩
              case measure => simp [intOf]; omega
          · obtain rfl : k = ps.length := by omega
            have hn := sel_len HP.out
            rw [List.take_length] at hn
            have HN := Lib.hid hn
            clear hn
            go_wp2_with fail
            go_ret2
            rw [← HN.out]
            exact ⟨B, d, rfl, HP.out.bel⟩
theorem implMany_any (A : Option Addr) (c : Nat) (ps : List Per) (a j : Int) (w : World) (hx : SeqP w A ps) (hok : peoOk ps = true) (ha : Ask a) (hj : Ask j) :
    Calls Try.prog 32 #[.slice A ps.length c, .int .i64 a, .int .i64 j, .int .i64 (-1)] w (Gives (.int .i64 (cntQ ps a j)) w) := by
  have HS := Lib.hid (selected_any A c ps a j w hx hok ha hj)
  clear hx hok ha hj
  go_enter Try.func32, Try.ntmps32
  go_wp2_with fail
  refine HS.out.mono ?_
  rintro e w1 ⟨B, d, rfl, hb⟩
  go_wp2_with fail
  go_ret
  exact ⟨rfl, hb⟩
end Go.Proofs.Ytncnghmadeghlaa
