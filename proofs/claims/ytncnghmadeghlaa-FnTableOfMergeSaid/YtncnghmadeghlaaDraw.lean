/- The reader of codes: l6Open and pick. What pick answers is below its bound; the reader's place goes on by one; nothing else turns. -/
import Derived.Test.YtncnghmadeghlaaBlk
import Derived.Test.YtncnghmadeghlaaRows
import Derived.Outline
import Derived.Deep.QuietTactic
import Derived.BigQuiet
import Derived.Laws.Rows
import Derived.Laws.BitsAllLaws
import Derived.Laws.BitsLemmas
import Derived.IntWalk
namespace Go.Proofs.Ytncnghmadeghlaa
open Go.RowKit
set_option linter.unusedVariables false

def T39 : TypeId := 94
def RdCells (A : Option Addr) (n c p : Nat) : Array Value := #[.slice A n c, .int .i64 p]
/-- Block g is a reader at place p; it and its bytes lie below block B. -/
def Rd (w : World) (B g p : Nat) : Prop :=
  ∃ (A : Option Addr) (c : Nat) (bs : List Int), Blk w g 94 #[.slice A bs.length c, .int .i64 p] ∧ bs.length ≤ 2000 ∧ (∀ b ∈ bs, 0 ≤ b ∧ b ≤ 255) ∧ Seq ByteV w A bs ∧ g < B ∧ (0 < bs.length → ∀ a, A = some a → a.block < B)

theorem seq_ne {w : World} {g : Nat} {t : TypeId} {A A' : Option Addr} {n c p : Nat} {bs : List Int} (hb : Blk w g t #[.slice A' n c, .int .i64 p]) (hs : Seq ByteV w A bs) (hn : 0 < bs.length) : ∀ b o, A = some ⟨b, o, none⟩ → b ≠ g := by
  intro b o e hg
  subst hg
  obtain ⟨b', o', x, e', _, _, hc⟩ := hs.at_ hn
  rw [e] at e'
  injection e' with e'
  injection e' with e1 e2
  subst e1 e2
  rw [hb.cell] at hc
  rcases o with _ | _ | o <;> simp at hc

theorem seq_set {w w' : World} {g : Nat} {t : TypeId} {A A' : Option Addr} {n c p : Nat} {bs : List Int} (hb : Blk w g t #[.slice A' n c, .int .i64 p]) (hs : Seq ByteV w A bs) (hg : w.grownBy w' (some g)) : Seq ByteV w' A bs := fun hn => by
  have hne := seq_ne hb hs hn
  obtain ⟨b, o, e, hlt, hc⟩ := hs hn
  have hsz := hg.size
  refine ⟨b, o, e, by omega, fun j x hx => ?_⟩
  rw [World.cell?_of_block (w := w) (a := ⟨b, o + j, none⟩) (hg.block b hlt (by have := hne b o e; simpa using this))]
  exact hc j x hx

/-- what pick leaves -/
def Picked (w : World) (B g p m : Nat) (e : Ending) (w' : World) : Prop :=
  ∃ k : Nat, e = .returned (.int .i64 k) ∧ k < m ∧ Rd w' B g (p + 1) ∧ w.grownBy w' (some g) ∧ w'.heap.size ≤ w.heap.size

theorem ofInt_i64 (a : Nat) (ha : a < 9223372036854775808) : (BitVec.ofInt 64 (a : Int)).toNat = a := by
  rw [BitVec.ofInt_natCast, BitVec.toNat_ofNat]; exact Nat.mod_eq_of_lt (by omega)
theorem i64_xor_nat (a b : Nat) (ha : a < 9223372036854775808) (hb : b < 9223372036854775808) : bits .xor .i64 (a : Int) (b : Int) = ((a ^^^ b : Nat) : Int) := by
  have hx : a ^^^ b < 2 ^ 63 := Nat.xor_lt_two_pow (by omega) (by omega)
  show IntKind.i64.wrap ((BitVec.ofInt 64 (a : Int) ^^^ BitVec.ofInt 64 (b : Int)).toNat : Int) = _
  rw [BitVec.toNat_xor, ofInt_i64 a ha, ofInt_i64 b hb, IntKind.wrap_i64]
  omega

theorem rd_step {w : World} {g p : Nat} {A : Option Addr} {c : Nat} {bs : List Int} (hb : Blk w g 94 #[.slice A bs.length c, .int .i64 p]) (hlen : bs.length ≤ 2000) (hr : ∀ b ∈ bs, 0 ≤ b ∧ b ≤ 255) (hs : Seq ByteV w A bs) (B : Nat) (hgB : g < B) (haB : 0 < bs.length → ∀ a, A = some a → a.block < B) (q : Nat) :
    Rd ((w.setCell ⟨g, 1, none⟩ (.int .i64 ((p : Int) + 1))).drewN q) B g (p + 1) ∧ w.grownBy ((w.setCell ⟨g, 1, none⟩ (.int .i64 ((p : Int) + 1))).drewN q) (some g) ∧ ((w.setCell ⟨g, 1, none⟩ (.int .i64 ((p : Int) + 1))).drewN q).heap.size ≤ w.heap.size := by
  have hg : w.grownBy ((w.setCell ⟨g, 1, none⟩ (.int .i64 ((p : Int) + 1))).drewN q) (some g) :=
    ⟨rfl, rfl, rfl, by simp [World.setCell], fun i hi hne => Below.heap_setCell w _ _ i (by simpa using hne)⟩
  refine ⟨⟨A, c, bs, ?_, hlen, hr, seq_set hb hs hg, hgB, haB⟩, hg, by simp [World.setCell]⟩
  have := hb.set_ 1 (.int .i64 ((p : Int) + 1))
  simpa [Blk] using this

set_option maxHeartbeats 1000000 in
theorem pick_any (B g p m : Nat) (w : World) (hr : Rd w B g p) (hp : p ≤ 1000000) (hm : 1 ≤ m) (hm' : m ≤ 1000000) :
    Calls Try.prog 66 #[.pointer (some ⟨g, 0, none⟩), .int .i64 m] w (Picked w B g p m) := by
  obtain ⟨A, c, bs, hb, hlen, hby, hs, hgB, haB⟩ := hr
  have hend := fun q => rd_step hb hlen hby hs B hgB haB q
  clear haB hgB
  have HE := Lib.hid hend
  clear hend
  have c0 : w.cell? ⟨g, 0, none⟩ = some (.slice A bs.length c) := by rw [hb.cell]; rfl
  have c1 : w.cell? ⟨g, 1, none⟩ = some (.int .i64 p) := by rw [hb.cell]; rfl
  have f1 : w.frozen? ⟨g, 1, none⟩ = false := hb.frozen 1
  by_cases h0 : bs.length = 0
  · have h0' : ((bs.length : Int) == 0) = true := by simp [h0]
    have H0 := Lib.hid h0
    clear h0
    go_enter Try.func66, Try.ntmps66
    go_wp2
    go_ret
    exact ⟨0, rfl, by omega, HE.out 0⟩
  · have h0' : ((bs.length : Int) == 0) = false := beq_eq_false_iff_ne.2 (by omega)
    by_cases h1 : p < bs.length
    · obtain ⟨b, o, x, rfl, hbb, hxk, hc⟩ := hs.at_ h1
      have hne : b ≠ g := seq_ne hb hs (by omega) b o rfl
      have hx := hby x (List.mem_of_getElem? hxk)
      have hx0 := hx.1
      have hx1 := hx.2
      clear hxk hx hby
      go_enter Try.func66, Try.ntmps66
      go_wp2
      go_ret
      refine ⟨(x % (m : Int)).toNat, ?_, ?_, HE.out 0⟩
      · exact ret_int (Int.toNat_of_nonneg (Int.emod_nonneg _ (by omega))).symm
      · have := Int.emod_lt_of_pos x (b := (m : Int)) (by omega)
        omega
    · obtain ⟨i, hi, ei⟩ : ∃ i, i < bs.length ∧ (p : Int).tmod (bs.length : Int) = (i : Int) := ⟨p % bs.length, Nat.mod_lt _ (by omega), by rw [Int.tmod_eq_emod_of_nonneg (by omega)]; rfl⟩
      obtain ⟨j, hj, ej⟩ : ∃ j, j < bs.length ∧ ((p : Int) * 7 + 3).tmod (bs.length : Int) = (j : Int) := ⟨(p * 7 + 3) % bs.length, Nat.mod_lt _ (by omega), by rw [Int.tmod_eq_emod_of_nonneg (by omega)]; rfl⟩
      obtain ⟨d, hd, ed⟩ : ∃ d, d ≤ p ∧ (p : Int).tdiv (bs.length : Int) = (d : Int) := ⟨p / bs.length, Nat.div_le_self _ _, rfl⟩
      obtain ⟨b, o, x, rfl, hbb, hxk, hc⟩ := hs.at_ (k := i) hi
      obtain ⟨b', o', y, hA, hbb', hyk, hc'⟩ := hs.at_ (k := j) hj
      obtain ⟨rfl, rfl⟩ : b = b' ∧ o = o' := by injection hA with hA; injection hA with h1 h2; exact ⟨h1, h2⟩
      have hne : b ≠ g := seq_ne hb hs (by omega) b o rfl
      have hx0 := (hby x (List.mem_of_getElem? hxk)).1
      have hx1 := (hby x (List.mem_of_getElem? hxk)).2
      have hy0 := (hby y (List.mem_of_getElem? hyk)).1
      have hy1 := (hby y (List.mem_of_getElem? hyk)).2
      clear hxk hby hyk hA
      obtain ⟨s, hs0, hs1, es⟩ : ∃ s : Int, 0 ≤ s ∧ s ≤ 1000000000 ∧ x * 131 + y * 1117 + (p : Int) * 29 + (d : Int) * 53 = s := ⟨_, by omega, by omega, rfl⟩
      have w1 : IntKind.i64.wrap x = x := IntWalk.i64_in _ (by omega)
      have w2 : IntKind.i64.wrap y = y := IntWalk.i64_in _ (by omega)
      have w3 : IntKind.i64.wrap (x * 131) = x * 131 := IntWalk.i64_in _ (by omega)
      have w4 : IntKind.i64.wrap ((p : Int) * 7) = (p : Int) * 7 := IntWalk.i64_in _ (by omega)
      have w5 : IntKind.i64.wrap ((p : Int) * 7 + 3) = (p : Int) * 7 + 3 := IntWalk.i64_in _ (by omega)
      have w6 : IntKind.i64.wrap (y * 1117) = y * 1117 := IntWalk.i64_in _ (by omega)
      have w7 : IntKind.i64.wrap (x * 131 + y * 1117) = x * 131 + y * 1117 := IntWalk.i64_in _ (by omega)
      have w8 : IntKind.i64.wrap ((p : Int) * 29) = (p : Int) * 29 := IntWalk.i64_in _ (by omega)
      have w9 : IntKind.i64.wrap (x * 131 + y * 1117 + (p : Int) * 29) = x * 131 + y * 1117 + (p : Int) * 29 := IntWalk.i64_in _ (by omega)
      have w10 : IntKind.i64.wrap ((d : Int) * 53) = (d : Int) * 53 := IntWalk.i64_in _ (by omega)
      have w11 : IntKind.i64.wrap (x * 131 + y * 1117 + (p : Int) * 29 + (d : Int) * 53) = s := by rw [es]; exact IntWalk.i64_in _ (by omega)
      have w12 : IntKind.i64.wrap (i : Int) = (i : Int) := IntWalk.i64_in _ (by omega)
      have w13 : IntKind.i64.wrap (j : Int) = (j : Int) := IntWalk.i64_in _ (by omega)
      have w14 : IntKind.i64.wrap (d : Int) = (d : Int) := IntWalk.i64_in _ (by omega)
      have i1 : (i : Int) < (bs.length : Int) := by omega
      have j1 : (j : Int) < (bs.length : Int) := by omega
      have W1 := Lib.hid w1; have W2 := Lib.hid w2; have W3 := Lib.hid w3; have W4 := Lib.hid w4; have W5 := Lib.hid w5; have W6 := Lib.hid w6; have W7 := Lib.hid w7
      have W8 := Lib.hid w8; have W9 := Lib.hid w9; have W10 := Lib.hid w10; have W11 := Lib.hid w11; have W12 := Lib.hid w12; have W13 := Lib.hid w13; have W14 := Lib.hid w14
      have EI := Lib.hid ei; have EJ := Lib.hid ej; have ED := Lib.hid ed
      clear w1 w2 w3 w4 w5 w6 w7 w8 w9 w10 w11 w12 w13 w14 ei ej ed es
      go_enter Try.func66, Try.ntmps66
      go_wp2
      have w1 := W1.out; have w2 := W2.out; have w3 := W3.out; have w4 := W4.out; have w5 := W5.out; have w6 := W6.out; have w7 := W7.out
      have w8 := W8.out; have w9 := W9.out; have w10 := W10.out; have w11 := W11.out; have w12 := W12.out; have w13 := W13.out; have w14 := W14.out
      have ei := EI.out; have ej := EJ.out; have ed := ED.out
      go_quiet (fail)
      clear w1 w2 w3 w4 w5 w6 w7 w8 w9 w10 w11 w12 w13 w14 ei ej ed
      obtain ⟨u, eu⟩ : ∃ u : Nat, bits .xor .i64 s (s / 64) = (u : Int) := by
        obtain ⟨a, rfl⟩ := Int.eq_ofNat_of_zero_le hs0
        exact ⟨_, i64_xor_nat a (a / 64) (by omega) (by omega)⟩
      go_wp2
      go_ret
      refine ⟨u % m, ?_, Nat.mod_lt _ (by omega), HE.out _⟩
      exact ret_int rfl
/-- what pick leaves, the bound an integer -/
def PickedI (w : World) (B g p : Nat) (m : Int) (e : Ending) (w' : World) : Prop :=
  ∃ k : Nat, e = .returned (.int .i64 k) ∧ (k : Int) < m ∧ Rd w' B g (p + 1) ∧ w.grownBy w' (some g) ∧ w'.heap.size ≤ w.heap.size
theorem pick_int (B g p : Nat) (m : Int) (w : World) (hr : Rd w B g p) (hp : p ≤ 1000000) (hm : 1 ≤ m) (hm' : m ≤ 1000000) :
    Calls Try.prog 66 #[.pointer (some ⟨g, 0, none⟩), .int .i64 m] w (PickedI w B g p m) := by
  obtain ⟨m, rfl⟩ := Int.eq_ofNat_of_zero_le (a := m) (by omega)
  refine (pick_any B g p m w hr hp (by omega) (by omega)).mono ?_
  rintro e w' ⟨k, he, hk, h⟩
  exact ⟨k, he, by omega, h⟩
theorem Rd.lt {w : World} {B g p : Nat} (h : Rd w B g p) : g < B := by
  obtain ⟨A, c, bs, hb, _, _, _, hg, _⟩ := h
  exact hg
/-- the reader stays while all below B stays -/
theorem Rd.keep {w w' : World} {B g p : Nat} (h : Rd w B g p) (hk : ∀ i, i < B → w'.heap[i]? = w.heap[i]?) : Rd w' B g p := by
  obtain ⟨A, c, bs, hb, h1, h2, h3, h4, h5⟩ := h
  refine ⟨A, c, bs, (hk g h4).trans hb, h1, h2, fun hn => ?_, h4, h5⟩
  obtain ⟨b, o, e, hlt, hc⟩ := h3 hn
  have hbB : b < B := h5 hn _ e
  have hlt' : b < w'.heap.size := by
    rcases Nat.lt_or_ge b w'.heap.size with h | h
    · exact h
    · have := hk b hbB
      rw [Array.getElem?_eq_none h] at this
      have := Array.getElem?_eq_none_iff.1 this.symm
      omega
  refine ⟨b, o, e, hlt', fun j x hx => ?_⟩
  rw [World.cell?_of_block (w := w) (a := ⟨b, o + j, none⟩) (hk b hbB)]
  exact hc j x hx
theorem Rd.alloc {w : World} {B g p : Nat} (h : Rd w B g p) (hB : B ≤ w.heap.size) (o : Obj) : Rd (w.alloc o) B g p := h.keep fun i hi => Below.heap_alloc w o i (by omega)
theorem Rd.below {w w' : World} {B g p : Nat} (h : Rd w B g p) (hb : Below B w w') : Rd w' B g p := h.keep hb.block
theorem Rd.grown {w w' : World} {B g p : Nat} {row : Option Nat} (h : Rd w B g p) (hg : w.grownBy w' row) (hB : B ≤ w.heap.size) (hr : ∀ k, row = some k → B ≤ k) : Rd w' B g p :=
  h.keep fun i hi => hg.block i (by omega) (fun e => by have := hr i e.symm; omega)
theorem Rd.more {w : World} {B B' g p : Nat} (h : Rd w B g p) (hB : B ≤ B') : Rd w B' g p := by
  obtain ⟨A, c, bs, hb, h1, h2, h3, h4, h5⟩ := h
  exact ⟨A, c, bs, hb, h1, h2, h3, by omega, fun hn a e => by have := h5 hn a e; omega⟩

end Go.Proofs.Ytncnghmadeghlaa
