/- l6Open: a reader of the code. -/
import Derived.Test.YtncnghmadeghlaaDraw
namespace Go.Proofs.Ytncnghmadeghlaa
open Go.RowKit
set_option linter.unusedVariables false
/-- what l6Open leaves: a reader in the next block -/
def Opened (w : World) (e : Ending) (w' : World) : Prop :=
  e = .returned (.pointer (some ⟨w.heap.size, 0, none⟩)) ∧ Rd w' (w.heap.size + 1) w.heap.size 0 ∧ Below w.heap.size w w' ∧ w.heap.size + 1 ≤ w'.heap.size

set_option maxHeartbeats 400000 in
theorem l6Open_any (A : Option Addr) (c : Nat) (bs : List Int) (w : World) (hs : Seq ByteV w A bs) (hl : bs.length ≤ maxLen) (hc : bs.length ≤ c) (hc' : c ≤ maxLen) (hby : ∀ b ∈ bs, 0 ≤ b ∧ b ≤ 255) :
    Calls Try.prog 61 #[.slice A bs.length c] w (Opened w) := by
  unfold maxLen at hl hc'
  by_cases h : 2000 < bs.length
  · have hend : Opened w (.returned (.pointer (some ⟨w.heap.size, 0, none⟩))) (w.alloc (.cells #[.slice A 2000 c, .int .i64 0] 94)) := by
      refine ⟨rfl, ⟨A, c, bs.take 2000, ?_, by simp; omega, fun b hb => hby b (List.mem_of_mem_take hb), (hs.take 2000).alloc _, by omega, fun hn a e => by
        obtain ⟨b, o, e', hlt, _⟩ := hs (by omega)
        rw [e] at e'; injection e' with e'; subst e'; simp; omega⟩, (Below.refl _ _).alloc (Nat.le_refl _) _, by simp⟩
      rw [show (bs.take 2000).length = 2000 by simp; omega]
      exact Blk.new _ _ _
    have HE := Lib.hid hend
    obtain ⟨b, o, x, rfl, -⟩ := hs.at_ (k := 0) (by omega)
    clear hend hby
    go_enter Try.func61, Try.ntmps61
    go_wp2
    go_ret
    exact HE.out
  · have hend : Opened w (.returned (.pointer (some ⟨w.heap.size, 0, none⟩))) (w.alloc (.cells #[.slice A bs.length c, .int .i64 0] 94)) :=
      ⟨rfl, ⟨A, c, bs, Blk.new _ _ _, by omega, hby, hs.alloc _, by omega, fun hn a e => by
        obtain ⟨b, o, e', hlt, _⟩ := hs hn
        rw [e] at e'; injection e' with e'; subst e'; simp; omega⟩, (Below.refl _ _).alloc (Nat.le_refl _) _, by simp⟩
    have HE := Lib.hid hend
    clear hend hby
    go_enter Try.func61, Try.ntmps61
    go_wp2
    go_ret
    exact HE.out
end Go.Proofs.Ytncnghmadeghlaa
