/- l13Path: the search by breadth of the reference. -/
import Derived.Test.YtncnghmadeghlaaOpenB
import Derived.Test.YtncnghmadeghlaaGrowA
import Derived.Test.YtncnghmadeghlaaInfo
import Derived.OwnWalk
namespace Go.Proofs.Ytncnghmadeghlaa
open Go.RowKit
set_option linter.unusedVariables false
abbrev IntN (v : Nat) : Value := .int .i64 (v : Int)
/-- the two lists of a search: the parents and the places reached -/
structure BLists (E : TypeId) (B n : Nat) (Ap : Option Addr) (cp : Nat) (Aw : Option Addr) (cw : Nat) (q : List Nat) (par : Nat → Int) (w : World) : Prop where
  pr : w.ownsRow B E 1 (.slice Ap n cp) n ((mkL n par).map IntV)
  wk : w.ownsRow B E 1 (.slice Aw q.length cw) q.length (q.map IntN)
  ds : ∀ b, (Value.slice Aw q.length cw).ownBlock = some b → (Value.slice Ap n cp).ownBlock ≠ some b
section
variable {E : TypeId} {B n : Nat} {Ap Aw : Option Addr} {cp cw : Nat} {q : List Nat} {par : Nat → Int} {w w6 : World}
theorem BLists.store (h : BLists E B n Ap cp Aw cw q par w) {m : Nat} (hm : m < n) (x : Int) : ∃ b, Ap = some ⟨b, 0, none⟩ ∧ B ≤ b ∧ b < w.heap.size ∧ w.cell? ⟨b, m, none⟩ = some (.int .i64 (par m)) ∧ w.frozen? ⟨b, m, none⟩ = false ∧
    BLists E B n Ap cp Aw cw q (up1 par m x) (w.setCell ⟨b, m, none⟩ (.int .i64 x)) := by
  obtain ⟨b, rfl, h1, h2, h3, h4, h5⟩ := own_mk h.pr hm
  refine ⟨b, rfl, h1, h2, h3, h4, ⟨h5 x, own_keep h.wk fun b' hb' => Below.heap_setCell _ _ _ b' (fun e => h.ds b' hb' (by rw [show b' = b from e]; rfl)), h.ds⟩⟩
theorem BLists.cell (h : BLists E B n Ap cp Aw cw q par w) {k u : Nat} (hk : q[k]? = some u) : ∃ b, Aw = some ⟨b, 0, none⟩ ∧ B ≤ b ∧ b < w.heap.size ∧ w.cell? ⟨b, k, none⟩ = some (.int .i64 u) := by
  have hl := (List.getElem?_eq_some_iff.1 hk).1
  obtain ⟨b, cap, e, h1, h2⟩ := h.wk.form (by omega)
  injection e with e1 e2 e3
  subst e1
  refine ⟨b, rfl, h1, h2, ?_⟩
  rw [h.wk.cellAt k (by omega), List.getElem?_map, hk]
  rfl
theorem BLists.push {A' : Option Addr} {c' m : Nat} (h : BLists E B n Ap cp Aw cw q par w) (ho : w6.ownsRow B E 1 (.slice A' (q.length + 1) c') (q.length + 1) (q.map IntN ++ [.int .i64 m])) (hg : w.grownBy w6 (Value.slice Aw q.length cw).ownBlock)
    (hn : ∀ b, (Value.slice A' (q.length + 1) c').ownBlock = some b → (Value.slice Aw q.length cw).ownBlock = some b ∨ w.heap.size ≤ b) : BLists E B n Ap cp A' c' (q ++ [m]) par w6 := by
  have hl : (q ++ [m]).length = q.length + 1 := by simp
  refine ⟨h.pr.kept hg ?_, ?_, fun b hb hb2 => ?_⟩
  · cases hub : (Value.slice Ap n cp).ownBlock with
    | none => exact .inl rfl
    | some g => exact .inr fun e => h.ds g e.symm hub
  · rw [hl, List.map_append]; exact ho
  · rw [hl] at hb
    rcases hn b hb with h1 | h1
    · exact h.ds b h1 hb2
    · have := (h.pr.lt b hb2).2; omega
end
section
variable {P : Program}
/-- append(own, u) in a world whose size goes by another spelling -/
theorem appVs {ops : Array Oper} {rest : List Oper} {o : Oper} {a : Act} {Q : Exit → Act → World → Prop} (s y : Operand) (t : TypeId)
    (ho : o.op = .call { callee := .builtin .append, args := #[s, y], argTypes := #[t, t] }) (hw : Region.wanted o (yielded ops a.tmps) = true)
    (w : World) (sz : Nat) (hsz : w.heap.size = sz) (base : Nat) (T : TypeId) (z : Value) (bytes : Nat) (ht : P.underlying t = some (.slice T)) (hinfo : (P.info? T).map (fun i => (i.zero, i.size, i.bytes)) = some (some z, 1, bytes)) (hz1 : z.cells.size = 1)
    (A : Option Addr) (n c : Nat) (us : List Value) (hnx : us.length = n) (hs : a.eval s = .slice A n c) (hown : w.ownsRow base T 1 (.slice A n c) n us)
    (u : Value) (hx : a.eval y = .slice (some ⟨sz, 0, none⟩) 1 1) (h1 : u.oneCell' = true) (hn : n ≤ 1048576) (hby : bytes ≤ 1000) (hbase : base ≤ w.heap.size)
    (h : ∀ A' c' w', w'.ownsRow base T 1 (.slice A' (n + 1) c') (n + 1) (us ++ [u]) → w.grownBy w' (Value.slice A n c).ownBlock →
      (∀ b, (Value.slice A' (n + 1) c').ownBlock = some b → (Value.slice A n c).ownBlock = some b ∨ w.heap.size ≤ b) → wpList P ops Q rest (a.put o.dst (.slice A' (n + 1) c')) w') :
    wpList P ops Q (o :: rest) a (w.alloc (.cells #[u] T)) := by
  subst hsz
  exact appV s y t ho hw w base T z bytes ht hinfo hz1 A n c us hnx hs hown u hx h1 hn hby hbase h
end
/-- what a search leaves -/
def Searched (E : TypeId) (n root : Nat) (Ed : Nat → Nat → Prop) (w : World) (e : Ending) (w' : World) : Prop :=
  ∃ Ap cp q k par, e = .returned (.slice Ap n cp) ∧ w'.ownsRow w.heap.size E 1 (.slice Ap n cp) n ((mkL n par).map IntV) ∧ Bfs n root Ed q k 0 par ∧ q.length ≤ k ∧ Below w.heap.size w w'
set_option maxHeartbeats 4000000 in
theorem l13Path_any (A B : Option Addr) (c d h wd a b : Nat) (X : Nat → Nat → Int) (M : Nat → Nat → Bool) (raise : Bool) (w : World) (hx : Tab IntV w A (mkT h wd X)) (hm_ : Tab BoolV w B (mkT h wd M)) (h4 : h ≤ 4) (w4 : wd ≤ 4) (ha : a < h) (hb : b < wd) :
    Calls Try.prog 90 #[.slice A h c, .slice B h d, .int .i64 a, .int .i64 b, .bool raise] w (Searched 3 (h + wd) a (Edge h wd a b M X raise) w) := by
  obtain ⟨b0, o0, A0, c0, rfl, hb0, k0, -⟩ := hx.mkrow (i := 0) (by omega)
  simp only [Nat.add_zero] at k0
  have g0 : (0 : Int) < (h : Int) := by omega
  obtain ⟨n, hn⟩ : ∃ n, n = h + wd := ⟨_, rfl⟩
  have hnI : (h : Int) + (wd : Int) = (n : Int) := by omega
  have HN := Lib.hid hn
  have hn8 : n ≤ 8 := by omega
  have han : a < n := by omega
  rw [← hn]
  have hst : (w.alloc (.cells #[] 3)).ownsRow w.heap.size 3 1 (.slice (some ⟨w.heap.size, 0, none⟩) 0 0) 0 ((mkL 0 fun _ => (-1 : Int)).map IntV) := own_empty w _
  have HST := Lib.hid hst
  have HB0 : Hid (Below w.heap.size w (w.alloc (.cells #[] 3))) := Lib.hid ((Below.refl _ _).alloc (Nat.le_refl _) _)
  clear hst hn
  go_enter Try.func90, Try.ntmps90
  go_wp2_with fail
  go_loopw [12, 13] (fun v i wr => ∃ (k : Nat) (Ap : Option Addr) (cp : Nat), k ≤ n ∧ i = .int .i64 k ∧ v = .slice Ap k cp ∧ Hid (wr.ownsRow w.heap.size 3 1 (.slice Ap k cp) k ((mkL k fun _ => (-1 : Int)).map IntV)) ∧ Hid (Below w.heap.size w wr)) (fun _ i _ => n - (intOf i).toNat)
  case atStart => exact ⟨0, _, _, Nat.zero_le _, rfl, rfl, HST, HB0⟩
  case round =>
    clear HST HB0
    obtain ⟨k, Ap, cp, hk, rfl, rfl, HP, HB⟩ := hrel
    obtain ⟨wo, rfl⟩ : ∃ wo : World, wo = wr := ⟨_, rfl⟩
    have hsz := HB.out.size
    by_cases hlt : k < n
    · have hrow := HP.out
      go_wp2_with (at_builtin; refine appV (.tmp 31) (.tmp 32) _ rfl (by rfl) wo w.heap.size 3 (.int .i64 0) 8 Try.underlying42 nfoI rfl Ap k cp ((mkL k fun _ => (-1 : Int)).map IntV) (by rw [List.length_map, mkL_len]) rfl hrow (.int .i64 (-1)) rfl rfl (by omega) (by omega) hsz ?_)
      intro A' c' w6 ho6 hg6 hn6
      have HP6 : Hid (w6.ownsRow w.heap.size 3 1 (.slice A' (k + 1) c') (k + 1) ((mkL (k + 1) fun _ => (-1 : Int)).map IntV)) := Lib.hid (by rw [mkL_succ, List.map_append]; exact ho6)
      have HB6 : Hid (Below w.heap.size w w6) := Lib.hid (HB.out.grown hg6 hsz (fun b e => (hrow.lt b e).1))
      clear ho6 hg6 hn6 hrow
      go_wp2_with fail
      go_roundw
      case rel => exact ⟨k + 1, A', c', by omega, by go_num, rfl, HP6, HB6⟩
      case measure => simp [intOf]; omega
    · obtain rfl : k = n := by omega
      obtain ⟨pb, rfl, hpb1, hpb2, cp0, fp0, hset⟩ := own_mk HP.out han
      have hset' := hset (a : Int)
      have g1 : (a : Int) < (k : Int) := by omega
      have hnew : Blk ((wo.setCell ⟨pb, a, none⟩ (.int .i64 a)).alloc (.cells #[.int .i64 a] 3)) wo.heap.size 3 #[.int .i64 a] := by
        have := Blk.new (wo.setCell ⟨pb, a, none⟩ (.int .i64 a)) 3 #[.int .i64 a]
        rwa [show (wo.setCell ⟨pb, a, none⟩ (.int .i64 a)).heap.size = wo.heap.size by simp [World.setCell]] at this
      have HL : Hid (BLists 3 w.heap.size k (some ⟨pb, 0, none⟩) cp (some ⟨wo.heap.size, 0, none⟩) 1 [a] (up1 (fun _ => -1) a a) ((wo.setCell ⟨pb, a, none⟩ (.int .i64 a)).alloc (.cells #[.int .i64 a] 3))) := Lib.hid
        ⟨hset'.alloc _, hnew.own (base := w.heap.size) (n := 1) hsz rfl (by unfold maxLen; omega), fun b h1 h2 => by simp [Value.ownBlock] at h1 h2; omega⟩
      have HB1 : Hid (Below w.heap.size w ((wo.setCell ⟨pb, a, none⟩ (.int .i64 a)).alloc (.cells #[.int .i64 a] 3))) := Lib.hid ((HB.out.setCell (p := ⟨pb, a, none⟩) hpb1 _).alloc (by simp [World.setCell]; omega) _)
      have HF0 : Hid (Bfs k a (Edge h wd a b M X raise) [a] 0 0 (up1 (fun _ => -1) a a)) := Lib.hid (Bfs.start han)
      clear hset hset' hnew HP HB
      go_wp2_with fail
      go_loopw [14, 15] (fun v i wr => ∃ (z : Nat) (q : List Nat) (par : Nat → Int) (Aw : Option Addr) (cw : Nat), z ≤ q.length ∧ i = .int .i64 z ∧ v = .slice Aw q.length cw ∧ Hid (Bfs k a (Edge h wd a b M X raise) q z 0 par) ∧ Hid (BLists 3 w.heap.size k (some ⟨pb, 0, none⟩) cp Aw cw q par wr) ∧ Hid (Below w.heap.size w wr)) (fun _ i _ => k - (intOf i).toNat)
      case atStart => exact ⟨0, [a], _, _, _, Nat.zero_le _, rfl, rfl, HF0, HL, HB1⟩
      case round =>
        clear HF0 HL HB1 cp0 fp0
        obtain ⟨z, q, par, Aw, cw, hz, rfl, rfl, HF, HL, HB⟩ := hrel
        obtain ⟨wi, rfl⟩ : ∃ wi : World, wi = wr := ⟨_, rfl⟩
        have hqk := HF.out.len
        by_cases hzq : z < q.length
        · go_wp2_with fail
          go_loopw [14, 16] (fun v i wr => ∃ (m : Nat) (q : List Nat) (par : Nat → Int) (Aw : Option Addr) (cw : Nat), z < q.length ∧ m ≤ k ∧ i = .int .i64 m ∧ v = .slice Aw q.length cw ∧ Hid (Bfs k a (Edge h wd a b M X raise) q z m par) ∧ Hid (BLists 3 w.heap.size k (some ⟨pb, 0, none⟩) cp Aw cw q par wr) ∧ Hid (Below w.heap.size w wr)) (fun _ i _ => k - (intOf i).toNat)
          case atStart => exact ⟨0, q, par, Aw, cw, hzq, Nat.zero_le _, rfl, rfl, HF, HL, HB⟩
          case round =>
            clear HF HL HB hzq hz hqk
            obtain ⟨m, q, par, Aw, cw, hzq, hm, rfl, rfl, HF, HL, HB⟩ := hrel
            obtain ⟨W, rfl⟩ : ∃ W : World, W = wr := ⟨_, rfl⟩
            have hql := HF.out.len
            by_cases hmk : m < k
            · obtain ⟨u, hu⟩ : ∃ u, q[z]? = some u := ⟨_, List.getElem?_eq_getElem hzq⟩
              have huk := HF.out.lt u (List.mem_of_getElem? hu)
              obtain ⟨wb, rfl, hwb1, hwb2, cw1⟩ := HL.out.cell hu
              obtain ⟨pb', hpe, -, -, cp1, fp1, hst⟩ := HL.out.store hmk (u : Int)
              obtain rfl : pb = pb' := by injection hpe with hpe; injection hpe
              obtain ⟨p, hp⟩ : ∃ p, par m = p := ⟨_, rfl⟩
              rw [hp] at cp1
              have HU := Lib.hid hu
              have HP := Lib.hid hp
              have HST := Lib.hid hst
              have hWz := HB.out.size
              have hne : wb ≠ pb := fun e => HL.out.ds wb rfl (by rw [e]; rfl)
              have g2 : (m : Int) < (k : Int) := by omega
              have g3 : (z : Int) < (q.length : Int) := by omega
              have hoc := l13Open_any (some ⟨b0, o0, none⟩) B c d h wd u m X M raise W (hx.below HB.out) (hm_.below HB.out) (by omega) (by omega) (by have := HN.out; omega) (by have := HN.out; omega)
              obtain ⟨ov, hov⟩ : ∃ ov, openF h M X raise u m = ov := ⟨_, rfl⟩
              rw [hov] at hoc
              have HOC := Lib.hid hoc
              have hE : Edge h wd a b M X raise u m ↔ ov = true ∧ ¬ (u = a ∧ m = h + b) ∧ ¬ (u = h + b ∧ m = a) := by rw [← hov]; exact edge_open (by have := HN.out; omega) (by have := HN.out; omega)
              have HE := Lib.hid hE
              have hown : ((((u : Int) == (a : Int)) = false) ∧ ¬ (u = a ∧ m = h + b)) ∨ ((((u : Int) == (a : Int)) = true ∧ ((m : Int) == (h : Int) + (b : Int)) = false) ∧ ¬ (u = a ∧ m = h + b)) ∨ ((((u : Int) == (a : Int)) = true ∧ ((m : Int) == (h : Int) + (b : Int)) = true) ∧ (u = a ∧ m = h + b)) := by
                by_cases e1 : u = a
                · by_cases e2 : m = h + b
                  · exact .inr (.inr ⟨⟨beq_iff_eq.2 (by omega), beq_iff_eq.2 (by omega)⟩, e1, e2⟩)
                  · exact .inr (.inl ⟨⟨beq_iff_eq.2 (by omega), beq_eq_false_iff_ne.2 (by omega)⟩, fun e => e2 e.2⟩)
                · exact .inl ⟨beq_eq_false_iff_ne.2 (by omega), fun e => e1 e.1⟩
              clear hu hp hst hoc hov hE hpe
              by_cases hp0 : p < 0
              · have d0 : decide (p < 0) = true := decide_eq_true hp0
                rcases hown with ⟨f1, hno⟩ | ⟨⟨f1, f2⟩, hno⟩ | ⟨⟨f1, f2⟩, hyes⟩
                case inr.inr =>
                  have HF2 := Lib.hid (HF.out.skip HU.out hmk (.inr fun e => (HE.out.1 e).2.1 hyes))
                  clear hyes
                  go_wp2_with fail
                  go_roundw
                  case rel => exact ⟨m + 1, q, par, _, cw, hzq, by omega, by go_num, rfl, HF2, HL, HB⟩
                  case measure => simp [intOf]; omega
                all_goals
                  have HNO := Lib.hid hno
                  clear hno
                  cases ov
                  · have HF2 := Lib.hid (HF.out.skip HU.out hmk (.inr fun e => by have := (HE.out.1 e).1; cases this))
                    go_wp2_with fail
                    refine HOC.out.mono ?_
                    rintro e w' ⟨rfl, rfl⟩
                    go_wp2_with fail
                    go_roundw
                    case rel => exact ⟨m + 1, q, par, _, cw, hzq, by omega, by go_num, rfl, HF2, HL, HB⟩
                    case measure => simp [intOf]; omega
                  · have HF2 := Lib.hid (HF.out.add HU.out hmk (by rw [HP.out]; exact hp0) (HE.out.2 ⟨rfl, HNO.out, fun e => by
                      have h1 := HF.out.own
                      rw [← e.2, HP.out] at h1
                      omega⟩))
                    go_wp2_with fail
                    refine HOC.out.mono ?_
                    rintro e w' ⟨rfl, rfl⟩
                    have hL2 := HST.out
                    have hrow := hL2.wk
                    have HL2 := Lib.hid hL2
                    have hsz2 : w.heap.size ≤ (W.setCell ⟨pb, m, none⟩ (.int .i64 u)).heap.size := by simp [World.setCell]; omega
                    clear hL2
                    go_wp2_with (at_builtin; refine appVs (.tmp 92) (.tmp 94) _ rfl (by rfl) (W.setCell ⟨pb, m, none⟩ (.int .i64 u)) W.heap.size (by simp [World.setCell]) w.heap.size 3 (.int .i64 0) 8 Try.underlying42 nfoI rfl (some ⟨wb, 0, none⟩) q.length cw (q.map IntN) (by rw [List.length_map]) rfl hrow (.int .i64 m) rfl rfl (by omega) (by omega) hsz2 ?_)
                    intro A' c' w6 ho6 hg6 hn6
                    have HL6 := Lib.hid (HL2.out.push (m := m) ho6 hg6 (fun b e => (hn6 b e).imp id (fun x => by simpa [World.setCell] using x)))
                    have HB6 : Hid (Below w.heap.size w w6) := Lib.hid ((HB.out.setCell (p := ⟨pb, m, none⟩) hpb1 _).grown hg6 hsz2 (fun b e => (hrow.lt b e).1))
                    have hql2 : (q ++ [m]).length = q.length + 1 := by simp
                    rw [← hql2]
                    clear ho6 hg6 hn6 hrow
                    go_wp2_with fail
                    go_roundw
                    case rel => exact ⟨m + 1, q ++ [m], up1 par m u, A', c', by omega, by omega, by go_num, rfl, HF2, HL6, HB6⟩
                    case measure => simp [intOf]; omega
              · have d0 : decide (p < 0) = false := decide_eq_false hp0
                have HF2 := Lib.hid (HF.out.skip HU.out hmk (.inl (by rw [HP.out]; omega)))
                rcases hown with ⟨f1, hno⟩ | ⟨⟨f1, f2⟩, hno⟩ | ⟨⟨f1, f2⟩, hno⟩
                all_goals
                  clear hno
                  go_wp2_with fail
                  go_roundw
                  case rel => exact ⟨m + 1, q, par, _, cw, hzq, by omega, by go_num, rfl, HF2, HL, HB⟩
                  case measure => simp [intOf]; omega
            · obtain rfl : m = k := by omega
              have HF2 := Lib.hid (HF.out.next (Nat.le_refl _))
              clear HF
              go_wp2_with fail
              go_roundw
              case rel => exact ⟨z + 1, q, par, Aw, cw, by omega, by go_num, rfl, HF2, HL, HB⟩
              case measure => simp [intOf]; omega
        · go_wp2_with fail
          go_ret
          exact ⟨_, cp, q, z, par, rfl, HL.out.pr, HF.out, by omega, HB.out⟩
end Go.Proofs.Ytncnghmadeghlaa
