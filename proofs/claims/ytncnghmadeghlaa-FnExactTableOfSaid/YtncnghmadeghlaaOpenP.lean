/- A slice of persons as the kit hands it over. -/
import Derived.Test.YtncnghmadeghlaaPeoV
import Derived.Test.YtncnghmadeghlaaOpenT
import Derived.Deep.Slices
import Derived.Deep.Fields
namespace Go.Proofs.Ytncnghmadeghlaa
open Go.RowKit Go.Deep Go.ChangeShapes Go.WideShapes
set_option linter.unusedVariables false
section
variable {H : Type} {enc : TypeId × Value → H} {P : Program} {w : World} {base : Nat} {held : Bool}
/-- four cells that read as a struct of four integers -/
theorem four_ints {e : TypeId} {fs : Array Field} {fuel : Nat} {cs : List Value} {x : DataW H × List MemPlace} (he : P.underlying e = some (.struct fs)) (hone : oneCellFields P fs = true) (hz : fs.size = 4) (hC : P.cellsOf e = 4)
    (hf : ∀ (i : Nat) (f : Field), fs[i]? = some f → P.underlying f.type = some (.int .i64)) (h : DataW.trod enc P w base (fun _ => true) held fuel e cs = some x) :
    ∃ p : Per, cs = [.int .i64 p.area, .int .i64 p.job, .int .i64 p.sex, .int .i64 p.pay] := by
  obtain ⟨xs, n, -, -, hl, hxl, hat⟩ := DataW.trod_struct he h
  rw [hC] at hl
  have hcell : ∀ i, i < 4 → ∃ z, cs[i]? = some (.int .i64 z) := by
    intro i hi
    have hfi : fs[i]? = some fs[i] := Array.getElem?_eq_getElem (by omega)
    obtain ⟨ho, hk⟩ := hone_of hone i _ hfi
    have h1 := hat i _ hfi
    rw [ho, hk] at h1
    have hxi : xs[i]? = some xs[i] := List.getElem?_eq_getElem (by omega)
    rw [hxi] at h1
    obtain ⟨z, hz', -, -⟩ := DataW.trod_int (hf i _ hfi) h1
    rw [List.drop_eq_getElem_cons (by omega), List.take_succ_cons, List.take_zero] at hz'
    injection hz' with hz'
    exact ⟨z, by rw [List.getElem?_eq_getElem (by omega), hz']⟩
  obtain ⟨a, h0⟩ := hcell 0 (by omega)
  obtain ⟨j, h1⟩ := hcell 1 (by omega)
  obtain ⟨s, h2⟩ := hcell 2 (by omega)
  obtain ⟨y, h3⟩ := hcell 3 (by omega)
  match cs, hl, h0, h1, h2, h3 with
  | [c0, c1, c2, c3], _, h0, h1, h2, h3 =>
    simp at h0 h1 h2 h3
    exact ⟨⟨a, j, s, y⟩, by rw [h0, h1, h2, h3]⟩
theorem fields_int {fs : Array Field} {T : TypeId} (h : (fs.all fun f => f.type == T) = true) (hT : P.underlying T = some (.int .i64)) : ∀ (i : Nat) (f : Field), fs[i]? = some f → P.underlying f.type = some (.int .i64) := by
  intro i f hi
  obtain ⟨hlt, rfl⟩ := Array.getElem?_eq_some_iff.1 hi
  have h2 := Array.all_eq_true.1 h i hlt
  rw [beq_iff_eq.1 h2]
  exact hT
theorem open_people {t e : TypeId} {fs : Array Field} {fuel : Nat} {A : Option Addr} {len cap : Nat} {x : DataW H × List MemPlace} (ht : P.underlying t = some (.slice e)) (he : P.underlying e = some (.struct fs)) (hone : oneCellFields P fs = true) (hz : fs.size = 4) (hC : P.cellsOf e = 4)
    (hf : ∀ (i : Nat) (f : Field), fs[i]? = some f → P.underlying f.type = some (.int .i64)) (h : DataW.trod enc P w base (fun _ => true) held fuel t [.slice A len cap] = some x) :
    ∃ s : List Per, len = s.length ∧ s.length ≤ maxLen ∧ SeqP w A s := by
  rcases open_slice ht h with ⟨hcs, -⟩ | ⟨a, l, c, m, n, D, Pl, hcs, -, hlc, hcm, hm, -, hat⟩
  · simp at hcs
    obtain ⟨rfl, rfl, rfl⟩ := hcs
    exact ⟨[], rfl, by simp, fun h => absurd h (by simp)⟩
  · simp at hcs
    obtain ⟨rfl, rfl, rfl⟩ := hcs
    simp only [if_true] at hm
    have hex : ∀ i : Nat, ∃ p : Per, i < len → ∀ q, q < 4 → w.cell? ((a.add (i * 4)).add q) = ([.int .i64 p.area, .int .i64 p.job, .int .i64 p.sex, .int .i64 p.pay] : List Value)[q]? := by
      intro i
      by_cases hi : i < len
      · obtain ⟨cs', h1, h2⟩ := hat i (by omega)
        rw [hC] at h1
        obtain ⟨-, h3, h4⟩ := World.cells?_some h1
        obtain ⟨p, rfl⟩ := four_ints he hone hz hC hf h2
        exact ⟨p, fun _ q hq => h4 q hq⟩
      · exact ⟨⟨0, 0, 0, 0⟩, fun h => absurd h hi⟩
    obtain ⟨F, hF⟩ := Classical.axiomOfChoice hex
    refine ⟨mkL len F, (mkL_len _ _).symm, by rw [mkL_len]; omega, fun hn => ?_⟩
    rw [mkL_len] at hn
    obtain ⟨b, off, spot⟩ := a
    have h0 := hF 0 hn 0 (by omega)
    have hspot : spot = none := by simpa [Addr.add] using World.cell?_spot h0
    subst hspot
    have hb : b < w.heap.size := by
      rcases Nat.lt_or_ge b w.heap.size with h | h
      · exact h
      · exfalso
        simp [Addr.add, World.cell?, Array.getElem?_eq_none h] at h0
    refine ⟨b, off, rfl, hb, fun i p hp => ?_⟩
    have hi : i < len := by have := (List.getElem?_eq_some_iff.1 hp).1; rwa [mkL_len] at this
    rw [mkL_get _ hi] at hp
    injection hp with hp
    subst hp
    have g := hF i hi
    simp only [add_at] at g
    exact ⟨by simpa using g 0 (by omega), by simpa using g 1 (by omega), by simpa using g 2 (by omega), by simpa using g 3 (by omega)⟩
end
end Go.Proofs.Ytncnghmadeghlaa
