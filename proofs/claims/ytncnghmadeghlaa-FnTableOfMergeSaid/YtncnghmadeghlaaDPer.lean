/- l91Person: a person is drawn. -/
import Derived.Test.YtncnghmadeghlaaDraw
import Derived.Test.YtncnghmadeghlaaOwnP
import Derived.IntWalk
import Derived.Handy
namespace Go.Proofs.Ytncnghmadeghlaa
open Go.RowKit
set_option linter.unusedVariables false
def PerDrawn (w : World) (B g p : Nat) (e : Ending) (w' : World) : Prop :=
  ∃ q : Per, e = .returned (PV q) ∧ (0 ≤ q.pay ∧ q.pay ≤ 999) ∧ Rd w' B g (p + 5) ∧ w.grownBy w' (some g)
set_option maxHeartbeats 1000000 in
theorem l91Person_any (B g p : Nat) (w : World) (hr : Rd w B g p) (hB : B ≤ w.heap.size) (hp : p ≤ 900000) :
    Calls Try.prog 83 #[.pointer (some ⟨g, 0, none⟩)] w (PerDrawn w B g p) := by
  have hgB := hr.lt
  have hR0 := fun o => hr.alloc hB o
  have HR0 := Lib.hid hR0
  clear hR0
  have z0 : (Try.prog.info? TP).isSome = true := by kernel_rfl
  go_enter Try.func83, Try.ntmps83
  go_wp2_with fail
  refine (pick_int B g p 4 _ (HR0.out _) (by omega) (by omega) (by omega)).mono ?_
  rintro e w1 ⟨k1, rfl, hk1, hr1, hg1, hz1⟩
  go_wp2_with fail
  refine (pick_int B g (p + 1) 3 _ hr1 (by omega) (by omega) (by omega)).mono ?_
  rintro e w2 ⟨k2, rfl, hk2, hr2, hg2, hz2⟩
  have hg12 := hg1.trans hg2
  clear hr1 hg1 hg2
  go_wp2_with fail
  refine (pick_int B g (p + 2) 2 _ hr2 (by omega) (by omega) (by omega)).mono ?_
  rintro e w3 ⟨k3, rfl, hk3, hr3, hg3, hz3⟩
  have hg13 := hg12.trans hg3
  clear hr2 hg12 hg3
  go_wp2_with fail
  refine (pick_int B g (p + 3) 10 _ hr3 (by omega) (by omega) (by omega)).mono ?_
  rintro e w4 ⟨k4, rfl, hk4, hr4, hg4, hz4⟩
  have hg14 := hg13.trans hg4
  clear hr3 hg13 hg4
  go_wp2_with fail
  refine (pick_int B g (p + 4) 100 _ hr4 (by omega) (by omega) (by omega)).mono ?_
  rintro e w5 ⟨k5, rfl, hk5, hr5, hg5, hz5⟩
  have hg15 := hg14.trans hg5
  clear hr4 hg14 hg5
  obtain ⟨h, hh⟩ : ∃ h, w.heap.size = h := ⟨_, rfl⟩
  have b0 : Blk w5 w.heap.size TP #[.int .i64 0, .int .i64 0, .int .i64 0, .int .i64 0] := (Blk.new w TP _).grown hg15 (by intro e; injection e with e; omega)
  rw [hh] at b0 ⊢
  obtain ⟨y, hy⟩ : ∃ y : Int, y = (k4 : Int) * 100 + (k5 : Int) := ⟨_, rfl⟩
  have wy : IntKind.i64.wrap ((k4 : Int) * 100 + (k5 : Int)) = (k4 : Int) * 100 + (k5 : Int) := IntWalk.i64_in _ (by omega)
  have b1 := b0.set_ 0 (.int .i64 k1)
  have b2 := b1.set_ 1 (.int .i64 k2)
  have b3 := b2.set_ 2 (.int .i64 k3)
  have b4 := b3.set_ 3 (.int .i64 ((k4 : Int) * 100 + (k5 : Int)))
  have q0 : w5.cell? ⟨h, 0, none⟩ = some (.int .i64 0) := by rw [b0.cell]; rfl
  have q1 := b1.cell 1
  have q2 := b2.cell 2
  have q3 := b3.cell 3
  have e0 := b1.cell 0
  have e1 := b2.cell 1
  have e2 := b3.cell 2
  have e3 := b4.cell 3
  simp at q1 q2 q3 e0 e1 e2 e3
  have f0 := b0.frozen 0
  have f1 := b1.frozen 1
  have f2 := b2.frozen 2
  have f3 := b3.frozen 3
  have HY := Lib.hid hy
  have HH := Lib.hid hh
  clear b0 b1 b2 b3 b4 hy hh
  go_wp2_with fail
  try simp only [Exit.inBlock, Exit.then]
  refine bodyPost_ret (v := PV ⟨k1, k2, k3, (k4 : Int) * 100 + k5⟩) (by simp [results, Try.results83, go_sem, e0, e1, e2, e3]; try rfl) rfl ?_
  refine ⟨_, rfl, ⟨by show 0 ≤ (k4 : Int) * 100 + k5; omega, by show (k4 : Int) * 100 + k5 ≤ 999; omega⟩, ?_, ?_⟩
  · have := HH.out
    exact hr5.keep fun i hi => by
      rw [Below.heap_setCell _ _ _ i (by simp; omega), Below.heap_setCell _ _ _ i (by simp; omega), Below.heap_setCell _ _ _ i (by simp; omega), Below.heap_setCell _ _ _ i (by simp; omega)]
  · have := HH.out
    have hg0 : w.grownBy w5 (some g) := (World.grownBy_alloc w _ (some g)).trans hg15
    refine ⟨hg0.os, hg0.tape, hg0.output, by simpa [World.setCell] using hg0.size, fun i hi hne => ?_⟩
    rw [Below.heap_setCell _ _ _ i (by simp; omega), Below.heap_setCell _ _ _ i (by simp; omega), Below.heap_setCell _ _ _ i (by simp; omega), Below.heap_setCell _ _ _ i (by simp; omega)]
    exact hg0.block i hi hne
end Go.Proofs.Ytncnghmadeghlaa
