/- l6Open and l92Parts: a list of at most 21 numbers is drawn in new memory. -/
import Derived.Test.YtloehocldbfbbaaDraw
import Derived.Test.YtloehocldbfbbaaApp
import Derived.Test.YtloehocldbfbbaaLst
namespace Go.Proofs.Ytloehocldbfbbaa
open Go.RowKit
set_option linter.unusedVariables false

/-- what l6Open leaves: a reader in the next block -/
def Opened (w : World) (e : Ending) (w' : World) : Prop :=
  e = .returned (.pointer (some ⟨w.heap.size, 0, none⟩)) ∧ Rd w' (w.heap.size + 1) w.heap.size 0 ∧ Below w.heap.size w w' ∧ w.heap.size + 1 ≤ w'.heap.size

set_option maxHeartbeats 400000 in
theorem l6Open_any (A : Option Addr) (c : Nat) (bs : List Int) (w : World) (hs : Seq ByteV w A bs) (hl : bs.length ≤ maxLen) (hc : bs.length ≤ c) (hc' : c ≤ maxLen) (hby : ∀ b ∈ bs, 0 ≤ b ∧ b ≤ 255) :
    Calls Try.prog 24 #[.slice A bs.length c] w (Opened w) := by
  unfold maxLen at hl hc'
  by_cases h : 2000 < bs.length
  · have hend : Opened w (.returned (.pointer (some ⟨w.heap.size, 0, none⟩))) (w.alloc (.cells #[.slice A 2000 c, .int .i64 0] 43)) := by
      refine ⟨rfl, ⟨A, c, bs.take 2000, ?_, by simp; omega, fun b hb => hby b (List.mem_of_mem_take hb), (hs.take 2000).alloc _, by omega, fun hn a e => by
        obtain ⟨b, o, e', hlt, _⟩ := hs (by omega)
        rw [e] at e'; injection e' with e'; subst e'; simp; omega⟩, (Below.refl _ _).alloc (Nat.le_refl _) _, by simp⟩
      rw [show (bs.take 2000).length = 2000 by simp; omega]
      exact Blk.new _ _ _
    have HE := Lib.hid hend
    obtain ⟨b, o, x, rfl, -⟩ := hs.at_ (k := 0) (by omega)
    clear hend hby
    go_enter Try.func24, Try.ntmps24
    go_wp2
    go_ret
    exact HE.out
  · have hend : Opened w (.returned (.pointer (some ⟨w.heap.size, 0, none⟩))) (w.alloc (.cells #[.slice A bs.length c, .int .i64 0] 43)) :=
      ⟨rfl, ⟨A, c, bs, Blk.new _ _ _, by omega, hby, hs.alloc _, by omega, fun hn a e => by
        obtain ⟨b, o, e', hlt, _⟩ := hs hn
        rw [e] at e'; injection e' with e'; subst e'; simp; omega⟩, (Below.refl _ _).alloc (Nat.le_refl _) _, by simp⟩
    have HE := Lib.hid hend
    clear hend hby
    go_enter Try.func24, Try.ntmps24
    go_wp2
    go_ret
    exact HE.out
theorem infoInt' : (Try.prog.info? 3).map (fun i => (i.zero, i.size, i.bytes)) = some (some (.int .i64 0), 1, 8) := by kernel_rfl

/-- what a draw of contributions leaves -/
def DrawnParts (w : World) (B g p : Nat) (e : Ending) (w' : World) : Prop :=
  ∃ A c xs p', e = .returned (.slice A (xs : List Int).length c) ∧ w'.ownsRow w.heap.size 3 1 (.slice A xs.length c) xs.length (xs.map IntV) ∧ xs.length ≤ 21 ∧ (∀ x ∈ xs, -1 ≤ x ∧ x ≤ 100001) ∧
    Rd w' B g p' ∧ p' ≤ p + 100 ∧ w.grownBy w' (some g)

theorem mem_snoc {xs : List Int} {x lo hi : Int} (h : ∀ y ∈ xs, lo ≤ y ∧ y ≤ hi) (h1 : lo ≤ x) (h2 : x ≤ hi) : ∀ y ∈ xs ++ [x], lo ≤ y ∧ y ≤ hi := by
  intro y hy
  rcases List.mem_append.1 hy with hy | hy
  · exact h y hy
  · rw [List.mem_singleton] at hy; subst hy; exact ⟨h1, h2⟩

set_option maxHeartbeats 1000000 in
theorem l92Parts_any (B g p : Nat) (w : World) (hr : Rd w B g p) (hB : B ≤ w.heap.size) (hp : p ≤ 900000) :
    Calls Try.prog 25 #[.pointer (some ⟨g, 0, none⟩)] w (DrawnParts w B g p) := by
  go_enter Try.func25, Try.ntmps25
  go_wp2_with fail
  refine (pick_int B g p 6 _ (hr.alloc hB _) (by omega) (by omega) (by omega)).mono ?_
  rintro e w1 ⟨n, rfl, hn, hr1, hg1, hsz1⟩
  have hgB := hr.lt
  have ho1 := (own_empty w 3).kept hg1 (.inr (by simp [Value.ownBlock]; omega))
  have hg1' : w.grownBy w1 (some g) := (World.grownBy_alloc w _ (some g)).trans hg1
  clear hg1 hsz1 hr
  go_wp2_with fail
  go_loopw [3, 5] (fun v i wr => ∃ (q : Nat) (A : Option Addr) (c : Nat) (xs : List Int), xs.length ≤ n ∧ i = .int .i64 xs.length ∧ v = .slice A xs.length c ∧ (∀ x ∈ xs, -1 ≤ x ∧ x ≤ 100001) ∧ wr.ownsRow w.heap.size 3 1 (.slice A xs.length c) xs.length (xs.map IntV) ∧ Rd wr B g q ∧ q ≤ p + 1 + 2 * xs.length ∧ w.grownBy wr (some g)) (fun _ i _ => n - (intOf i).toNat)
  case atStart => exact ⟨p + 1, _, _, [], by simp, rfl, rfl, by simp, ho1, hr1, by simp, hg1'⟩
  case round =>
    obtain ⟨q, A, c, xs, hk, rfl, rfl, hrange, ho, hr2, hq, hg2⟩ := hrel
    clear ho1 hg1' hr1
    have hsz2 := hg2.size
    by_cases hlt : xs.length < n
    · go_wp2_with fail
      refine (pick_int B g q 12 _ hr2 (by omega) (by omega) (by omega)).mono ?_
      rintro e w2 ⟨k1, rfl, hk1, hr3, hg3, hsz3⟩
      have hu3 := hg3.size
      have ho2 := ho.kept hg3 (.inr (by intro e; have := (ho.lt _ e).1; omega))
      clear ho hr2
      go_wp2_with fail
      refine (pick_int B g (q + 1) 3 _ (hr3.alloc (by omega) _) (by omega) (by omega) (by omega)).mono ?_
      rintro e w3 ⟨k2, rfl, hk2, hr4, hg4, hsz4⟩
      obtain ⟨y, hy, hcell⟩ : ∃ y : Int, (y = 1 ∨ y = 10 ∨ y = 100) ∧ w3.cell? ⟨w2.heap.size, k2, none⟩ = some (.int .i64 y) := by
        rw [hg4.cell_far ⟨w2.heap.size, k2, none⟩ (by simp) (by simp; omega)]
        have hk2' : k2 = 0 ∨ k2 = 1 ∨ k2 = 2 := by omega
        rcases hk2' with rfl | rfl | rfl
        · exact ⟨1, .inl rfl, by simp⟩
        · exact ⟨10, .inr (.inl rfl), by simp⟩
        · exact ⟨100, .inr (.inr rfl), by simp⟩
      have hz : 0 ≤ (k1 : Int) * y ∧ (k1 : Int) * y ≤ 1100 := by rcases hy with rfl | rfl | rfl <;> omega
      have hz0 := hz.1
      have hz1 := hz.2
      have hy1 : 1 ≤ y ∧ y ≤ 100 := by omega
      have ho3 := (ho2.alloc (.cells #[.int .i64 1, .int .i64 10, .int .i64 100] 3)).kept hg4 (.inr (by intro e; have := (ho2.lt _ e).1; omega))
      have hg5 : w.grownBy w3 (some g) := ((hg2.trans hg3).trans (World.grownBy_alloc _ _ _)).trans hg4
      have hsz5 := hg5.size
      clear hz hy hg2 hg3 hg4 ho2 hr3
      go_wp2_with (at_builtin; refine app1 (f := IntV) rfl _ _ _ rfl w3 w.heap.size 3 (.int .i64 0) 8 Try.underlying23 infoInt' rfl A c xs rfl ho3 ((k1 : Int) * y) rfl rfl (by omega) (by omega) (by omega) ?_; intro A' c' w4 ho4 hg6 _)
      have hr5 := hr4.grown hg6 (by omega) (fun k hk => by have := (ho3.lt _ hk).1; omega)
      have hg7 := grow_step hg5 hg6 (fun k hk => .inr (ho3.lt _ hk).1)
      clear ho3 hr4 hg5 hg6
      go_wp2_with fail
      go_roundw
      case rel => exact ⟨q + 1 + 1, A', c', xs ++ [(k1 : Int) * y], by simp; omega, by simp, by simp, mem_snoc hrange (by omega) (by omega), by simpa using ho4, hr5, by simp; omega, hg7⟩
      case measure => simp [intOf]; omega
    · go_wp2_with fail
      refine (pick_int B g q 40 _ hr2 (by omega) (by omega) (by omega)).mono ?_
      rintro e w2 ⟨k1, rfl, hk1, hr3, hg3, hsz3⟩
      have hu3 := hg3.size
      have ho2 := ho.kept hg3 (.inr (by intro e; have := (ho.lt _ e).1; omega))
      have hg4 := hg2.trans hg3
      have hsz4 := hg4.size
      clear ho hr2 hg2 hg3
      by_cases c0 : k1 = 0
      · subst c0
        go_wp2_with fail
        refine (pick_int B g (q + 1) 3 _ (hr3.alloc (by omega) _) (by omega) (by omega) (by omega)).mono ?_
        rintro e w3 ⟨k2, rfl, hk2, hr4, hg5, hsz5⟩
        obtain ⟨y, hy, hcell⟩ : ∃ y : Int, (-1 ≤ y ∧ y ≤ 100001) ∧ w3.cell? ⟨w2.heap.size, k2, none⟩ = some (.int .i64 y) := by
          rw [hg5.cell_far ⟨w2.heap.size, k2, none⟩ (by simp) (by simp; omega)]
          have hk2' : k2 = 0 ∨ k2 = 1 ∨ k2 = 2 := by omega
          rcases hk2' with rfl | rfl | rfl
          · exact ⟨-1, by omega, by simp⟩
          · exact ⟨100001, by omega, by simp⟩
          · exact ⟨100000, by omega, by simp⟩
        have ho3 := (ho2.alloc (.cells #[.int .i64 (-1), .int .i64 100001, .int .i64 100000] 3)).kept hg5 (.inr (by intro e; have := (ho2.lt _ e).1; omega))
        have hg6 : w.grownBy w3 (some g) := (hg4.trans (World.grownBy_alloc _ _ _)).trans hg5
        have hsz6 := hg6.size
        clear hg4 hg5 ho2 hr3
        go_wp2_with (at_builtin; refine app1 (f := IntV) rfl _ _ _ rfl w3 w.heap.size 3 (.int .i64 0) 8 Try.underlying23 infoInt' rfl A c xs rfl ho3 y rfl rfl (by omega) (by omega) (by omega) ?_; intro A' c' w4 ho4 hg7 _)
        have hr5 := hr4.grown hg7 (by omega) (fun k hk => by have := (ho3.lt _ hk).1; omega)
        have hg8 := grow_step hg6 hg7 (fun k hk => .inr (ho3.lt _ hk).1)
        go_wp2_with fail
        go_ret
        exact ⟨A', c', xs ++ [y], q + 1 + 1, by simp, by simpa using ho4, by simp; omega, mem_snoc hrange hy.1 hy.2, hr5, by omega, hg8⟩
      · have c0' : ((k1 : Int) == 0) = false := beq_eq_false_iff_ne.2 (by omega)
        by_cases c1 : k1 = 1
        · subst c1
          go_wp2_with fail
          go_loopw [3] (fun v wr => ∃ (A : Option Addr) (c : Nat) (ys : List Int), ys.length ≤ 21 ∧ v = .slice A ys.length c ∧ (∀ x ∈ ys, -1 ≤ x ∧ x ≤ 100001) ∧ wr.ownsRow w.heap.size 3 1 (.slice A ys.length c) ys.length (ys.map IntV) ∧ Rd wr B g (q + 1) ∧ w.grownBy wr (some g)) (fun v _ => 21 - lenOf v)
          case atStart => exact ⟨A, c, xs, by omega, rfl, hrange, ho2, hr3, hg4⟩
          case round =>
            clear ho2 hr3 hg4
            obtain ⟨A, c, ys, hy, rfl, hrange, ho, hr5, hg5⟩ := hrel
            have hsz5 := hg5.size
            by_cases hlt : ys.length ≤ 20
            · go_wp2_with (at_builtin; refine app1 (f := IntV) rfl _ _ _ rfl _ w.heap.size 3 (.int .i64 0) 8 Try.underlying23 infoInt' rfl A c ys rfl ho 1 rfl rfl (by omega) (by omega) (by omega) ?_; intro A' c' w4 ho4 hg7 _)
              have hr6 := hr5.grown hg7 (by omega) (fun k hk => by have := (ho.lt _ hk).1; omega)
              have hg8 := grow_step hg5 hg7 (fun k hk => .inr (ho.lt _ hk).1)
              go_wp2_with fail
              go_roundw
              case rel => exact ⟨A', c', ys ++ [1], by simp; omega, by simp, mem_snoc hrange (by omega) (by omega), by simpa using ho4, hr6, hg8⟩
              case measure => simp [lenOf]; omega
            · go_wp2_with fail
              go_ret
              exact ⟨A, c, ys, q + 1, rfl, ho, by omega, hrange, hr5, by omega, hg5⟩
        · have c1' : ((k1 : Int) == 1) = false := beq_eq_false_iff_ne.2 (by omega)
          go_wp2_with fail
          go_ret
          exact ⟨A, c, xs, q + 1, rfl, ho2, by omega, hrange, hr3, by omega, hg4⟩

/-- what every draw of contributions says of the list -/
def Drawn (xs : List Int) : Prop := xs.length ≤ 21 ∧ ∀ x ∈ xs, -1 ≤ x ∧ x ≤ 100001
/-- a list is drawn in new memory -/
def DrewList (w : World) (e : Ending) (w' : World) : Prop :=
  ∃ A c xs, e = .returned (.slice A (xs : List Int).length c) ∧ Lst IntV w' A c xs ∧ Drawn xs ∧ Below w.heap.size w w'
theorem drew_parts {w w1 w2 : World} {e : Ending} (hb : Below w.heap.size w w1) (hz9 : w.heap.size + 1 ≤ w1.heap.size) (hd : DrawnParts w1 (w.heap.size + 1) w.heap.size 0 e w2) :
    ∃ A c xs p', e = .returned (.slice A (xs : List Int).length c) ∧ w2.ownsRow (w.heap.size + 1) 3 1 (.slice A xs.length c) xs.length (xs.map IntV) ∧ (Rd w2 (w.heap.size + 1) w.heap.size p' ∧ p' ≤ 100 ∧ w.heap.size + 1 ≤ w2.heap.size) ∧ Drawn xs ∧ Below w.heap.size w w2 := by
  obtain ⟨A, c, xs, p', rfl, ho, h1, h2, hr, hp, hg⟩ := hd
  have := hr.lt
  have hz := hg.size
  have hz0 := hb.size
  refine ⟨A, c, xs, p', rfl, own_lower ho hz9, ⟨hr, by omega, by omega⟩, ⟨h1, h2⟩, hb.trans (grow_below hg hz0 (Nat.le_refl _))⟩
/-- what a pick leaves of a list that lies apart from the reader -/
theorem picked_parts {w w1 w2 : World} {p : Nat} {m : Int} {e : Ending} {v : Value} {n : Nat} {vs : List Value} {t : TypeId} (ho : w1.ownsRow (w.heap.size + 1) t 1 v n vs) (hr : Rd w1 (w.heap.size + 1) w.heap.size p ∧ p ≤ 1000 ∧ w.heap.size + 1 ≤ w1.heap.size) (hb : Below w.heap.size w w1) (hd : PickedI w1 (w.heap.size + 1) w.heap.size p m e w2) :
    ∃ k : Nat, e = .returned (.int .i64 k) ∧ (k : Int) < m ∧ w2.ownsRow (w.heap.size + 1) t 1 v n vs ∧ (Rd w2 (w.heap.size + 1) w.heap.size (p + 1) ∧ p + 1 ≤ 1001 ∧ w.heap.size + 1 ≤ w2.heap.size) ∧ Below w.heap.size w w2 := by
  obtain ⟨k, rfl, hk, hr2, hg, hz⟩ := hd
  have hz1 := hg.size
  exact ⟨k, rfl, hk, ho.kept hg (.inr fun e => by have := (ho.lt _ e).1; omega), ⟨hr2, by omega, by omega⟩, hb.trans (grow_below hg hb.size (Nat.le_refl _))⟩
end Go.Proofs.Ytloehocldbfbbaa
