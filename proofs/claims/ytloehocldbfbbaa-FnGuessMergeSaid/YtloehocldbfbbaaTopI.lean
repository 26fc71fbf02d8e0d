/- Contracts of slices.Clone, topSum and PartsTop of the program. -/
import Derived.Test.YtloehocldbfbbaaSortP
import Derived.Test.YtloehocldbfbbaaTotal
import Derived.Test.YtloehocldbfbbaaTopW
import Derived.WalkSpells
import Derived.WalkLawsBesides
import Derived.OpenShut
namespace Go.Proofs.Ytloehocldbfbbaa
open Go.RowKit
set_option linter.unusedVariables false

theorem infoInt9 : (Try.prog.info? 3).map (fun i => (i.zero, i.size, i.bytes)) = some (some (.int .i64 0), 1, 8) := by kernel_rfl

/-- a copy in new memory -/
def Cloned (w : World) (xs : List Int) (e : Ending) (w' : World) : Prop :=
  ∃ A c, e = .returned (.slice A xs.length c) ∧ w'.ownsRow w.heap.size 3 1 (.slice A xs.length c) xs.length (xs.map IntV) ∧ Below w.heap.size w w'
set_option maxHeartbeats 400000 in
theorem clone_any (A : Option Addr) (c : Nat) (xs : List Int) (w : World) (hx : Lst IntV w A c xs) (hl : xs.length ≤ 1048576) :
    Calls Try.prog 36 #[.slice A xs.length c] w (Cloned w xs) := by
  have q22 : ∀ (w : World) (a : Option Addr) (n c n' c' : Nat), (binOp .eql 23 (.slice a n c) (.slice none n' c')).run Try.prog w = .ok (.bool a.isNone) w := fun w a n c n' c' => Lib.run_eql_slice_nil w _ _ a n c n' c' Try.underlying23
  have HL := Lib.hid hx
  rcases A with _ | ad
  · have hc : c = 0 := hx.2.2.2 rfl
    have hy : xs = [] := List.eq_nil_of_length_eq_zero (by have := hx.2.1; omega)
    subst hc hy
    clear hx
    go_enter Try.func36, Try.ntmps36
    go_wp2_with fail
    go_ret
    exact ⟨none, 0, rfl, World.ownsRow_nil _ _ _ _, Below.refl _ _⟩
  · clear hx
    go_enter Try.func36, Try.ntmps36
    go_wp2_with (at_builtin; refine appFresh (f := IntV) (.tmp 5) (.tmp 6) _ rfl (by rfl) w 3 (.int .i64 0) 8 Try.underlying23 infoInt9 rfl rfl (some ad) _ c xs rfl rfl HL.out (fun _ => rfl) (by omega) (by omega) ?_)
    intro A2 c2 ys w2 HY ho2 hb2
    go_wp2_with fail
    go_ret
    have hy := HY.out
    subst hy
    exact ⟨A2, c2, rfl, ho2, hb2⟩

theorem srt_range {xs : List Int} (hr : ∀ x ∈ xs, 0 ≤ x ∧ x ≤ 100000) (k : Nat) : ∀ x ∈ (srt xs).take k, 0 ≤ x ∧ x ≤ 100000 := fun x hx => hr x (srt_mem.1 (List.mem_of_mem_take hx))

set_option maxHeartbeats 400000 in
theorem topSum_any (A : Option Addr) (c : Nat) (xs : List Int) (n : Nat) (w : World) (hx : Lst IntV w A c xs) (hl : xs.length ≤ 20) (hr : ∀ x ∈ xs, 0 ≤ x ∧ x ≤ 100000) (hn : (n : Int) ≤ 9223372036854775807) :
    Calls Try.prog 33 #[.slice A xs.length c, .int .i64 n] w (Gives (.int .i64 (top xs n)) w) := by
  have HR := Lib.hid hr
  clear hr
  go_enter Try.func33, Try.ntmps33
  go_wp2_with fail
  refine (clone_any A c xs _ hx (by omega)).mono ?_
  rintro e w1 ⟨A1, c1, rfl, ho, hb⟩
  clear hx
  by_cases h0 : xs.length = 0
  · have hxs : xs = [] := List.eq_nil_of_length_eq_zero h0
    subst hxs
    clear h0
    have hno := AnyF.slices_SortFunc_none sort0L A1 c1 (.func (.func 38) #[] #[])
    change ∀ W, Calls Try.prog 37 _ _ _ at hno
    have HN := Lib.hid hno
    clear hno
    go_wp2_with fail
    refine (HN.out _).mono ?_
    rintro e w' ⟨rfl, rfl⟩
    clear HN
    go_wp2_with fail
    refine (total_any A1 c1 (min (n : Int) 0).toNat [] _ (by simp; omega) Seq.nil_ (by simp) (by omega)).mono ?_
    rintro e w' ⟨rfl, rfl⟩
    go_wp2_with fail
    go_ret
    exact ⟨ret_int (by simp [top, srt]), hb⟩
  · obtain ⟨g, cap, hv, hg⟩ := ho.form (by omega)
    have hA : A1 = some ⟨g, 0, none⟩ := by injection hv
    subst hA
    clear hv
    go_wp2_with fail
    refine (sort_any w.heap.size g c1 xs _ (by omega) hl HR.out hb.size ho).mono ?_
    rintro e w2 ⟨rfl, hs, hb2⟩
    have hb3 := hb.trans hb2
    clear ho hb hb2
    have hc1 := hs.2.1
    rw [srt_len] at hc1
    have HS := Lib.hid hs
    clear hs
    go_wp2_with fail
    refine (total_any (some ⟨g, 0, none⟩) c1 (min (n : Int) (xs.length : Int)).toNat ((srt xs).take n) _ (by rw [List.length_take, srt_len]; omega) (HS.out.1.take n) (srt_range HR.out n) (by omega)).mono ?_
    rintro e w' ⟨rfl, rfl⟩
    go_wp2_with fail
    go_ret
    exact ⟨rfl, hb3⟩

set_option maxHeartbeats 400000 in
theorem implPartsTop_g (A : Option Addr) (c : Nat) (xs : List Int) (n : Int) (w : World) (hx : Lst IntV w A c xs) (hl : xs.length ≤ 1048576) (hw : ∀ n ∈ xs, (Lit.int .i64 n).wf = true) (hn : (Lit.int .i64 n).wf = true) :
    Calls Try.prog 19 #[.slice A xs.length c, .int .i64 n] w (Gives (.int .i64 (partsTop xs n)) w) := by
  have hnb := bounds_i64 hn
  have hn1 := hnb.2
  clear hw hn hnb
  cases hv : partsValid xs
  · have HV := Lib.hid hv
    go_enter Try.func19, Try.ntmps19
    go_wp2_with fail
    refine (implPartsValid_any _ _ _ _ hx.1 (by unfold maxLen; omega)).mono ?_
    rintro e w' ⟨rfl, rfl⟩
    go_wp2_with fail
    go_ret
    exact ⟨ret_int (partsTop_no (by rw [HV.out]; simp)).symm, Below.refl _ _⟩
  · have HV := Lib.hid hv
    by_cases h0 : n < 0
    · go_enter Try.func19, Try.ntmps19
      go_wp2_with fail
      refine (implPartsValid_any _ _ _ _ hx.1 (by unfold maxLen; omega)).mono ?_
      rintro e w' ⟨rfl, rfl⟩
      go_wp2_with fail
      go_ret
      exact ⟨ret_int (partsTop_no (by omega)).symm, Below.refl _ _⟩
    · obtain ⟨m, rfl⟩ := Int.eq_ofNat_of_zero_le (a := n) (by omega)
      have h0' : decide ((m : Int) < 0) = false := by simp
      go_enter Try.func19, Try.ntmps19
      go_wp2_with fail
      refine (implPartsValid_any _ _ _ _ hx.1 (by unfold maxLen; omega)).mono ?_
      rintro e w' ⟨rfl, rfl⟩
      go_wp2_with fail
      refine (topSum_any A c xs m _ hx (valid_len HV.out) (valid_mem HV.out) hn1).mono ?_
      rintro e w2 ⟨rfl, hb⟩
      go_wp2_with fail
      go_ret
      exact ⟨ret_int (partsTop_nat HV.out).symm, hb⟩
end Go.Proofs.Ytloehocldbfbbaa
