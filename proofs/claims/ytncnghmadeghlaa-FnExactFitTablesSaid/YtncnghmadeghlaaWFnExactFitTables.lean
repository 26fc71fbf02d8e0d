/- The walk of the law FnExactFitTables: for every table, mask and lists it returns true and leaves old memory alone. -/
import Derived.Test.YtncnghmadeghlaaFitI
import Derived.Test.YtncnghmadeghlaaFitS
import Derived.Test.YtncnghmadeghlaaToIntSS
import Derived.Test.YtncnghmadeghlaaToBoolSS
import Derived.Test.YtncnghmadeghlaaSzInt
import Derived.Test.YtncnghmadeghlaaSzBool
namespace Go.Proofs.Ytncnghmadeghlaa.fnExactFitTables
open Go.RowKit
set_option linter.unusedVariables false

set_option maxRecDepth 100000 in
set_option maxHeartbeats 2000000 in
theorem walk (A : Option Addr) (c : Nat) (t : List (List Int)) (B : Option Addr) (d : Nat) (m : List (List Bool)) (C : Option Addr) (f : Nat) (x : List (List Int)) (w : World) (hx : Tab IntV w A t) (hl : t.length ≤ maxLen) (hc : t.length ≤ c) (hcm : c ≤ maxLen) (hw : ∀ r ∈ t, ∀ n ∈ r, (Lit.int .i64 n).wf = true)
    (hy : Tab BoolV w B m) (hm : m.length ≤ maxLen) (hd : m.length ≤ d) (hdm : d ≤ maxLen) (hz : Tab IntV w C x) (hxl : x.length ≤ maxLen) (hf : x.length ≤ f) (hfm : f ≤ maxLen) (hw2 : ∀ r ∈ x, ∀ n ∈ r, (Lit.int .i64 n).wf = true) :
    Calls Try.prog 12 #[.slice A t.length c, .slice B m.length d, .slice C x.length f] w (Yes w) := by
  clear hw hw2
  by_cases h1 : szT t 1048576 < 0
  · go_enter Try.func12, Try.ntmps12
    go_wp2_with fail
    refine (szIntSS_any A c t 1048576 _ hx hl (by omega) (by omega)).mono ?_
    rintro e w' ⟨rfl, rfl⟩
    go_wp2_with fail
    go_ret
    exact ⟨rfl, Below.refl _ _⟩
  have f0 := szT_fit (by omega) h1
  have f1 := f0.1
  have F2 := Lib.hid f0.2.1
  have f3 := f0.2.2
  clear f0
  by_cases h2 : szT m (szT t 1048576) < 0
  · go_enter Try.func12, Try.ntmps12
    go_wp2_with fail
    refine (szIntSS_any A c t 1048576 _ hx hl (by omega) (by omega)).mono ?_
    rintro e w' ⟨rfl, rfl⟩
    go_wp2_with fail
    refine (szBoolSS_any B d m _ _ hy hm (by omega) (by omega)).mono ?_
    rintro e w' ⟨rfl, rfl⟩
    go_wp2_with fail
    go_ret
    exact ⟨rfl, Below.refl _ _⟩
  have g0 := szT_fit (by omega) h2
  have g1 := g0.1
  have G2 := Lib.hid g0.2.1
  have g3 := g0.2.2
  clear g0
  by_cases h3 : szT x (szT m (szT t 1048576)) < 0
  · go_enter Try.func12, Try.ntmps12
    go_wp2_with fail
    refine (szIntSS_any A c t 1048576 _ hx hl (by omega) (by omega)).mono ?_
    rintro e w' ⟨rfl, rfl⟩
    go_wp2_with fail
    refine (szBoolSS_any B d m _ _ hy hm (by omega) (by omega)).mono ?_
    rintro e w' ⟨rfl, rfl⟩
    go_wp2_with fail
    refine (szIntSS_any C f x _ _ hz hxl (by omega) (by omega)).mono ?_
    rintro e w' ⟨rfl, rfl⟩
    go_wp2_with fail
    go_ret
    exact ⟨rfl, Below.refl _ _⟩
  have k0 := szT_fit (by omega) h3
  have k1 := k0.1
  have K2 := Lib.hid k0.2.1
  clear k0
  have HT : Hid (∀ r ∈ t, r.length ≤ 1048576) := Lib.hid fun r hr => by have := F2.out r hr; omega
  have HM : Hid (∀ r ∈ m, r.length ≤ 1048576) := Lib.hid fun r hr => by have := G2.out r hr; omega
  have HX : Hid (∀ r ∈ x, r.length ≤ 1048576) := Lib.hid fun r hr => by have := K2.out r hr; omega
  have ht : t.length ≤ 1048576 := by omega
  have hmm : m.length ≤ 1048576 := by omega
  have hxx : x.length ≤ 1048576 := by omega
  obtain ⟨R, hR⟩ : ∃ R, fitT t m x = R := ⟨_, rfl⟩
  have HI : Hid (∀ A B C c d f w, Tab IntV w A t → Tab BoolV w B m → Tab IntV w C x → Calls Try.prog 39 #[.slice A t.length c, .slice B m.length d, .slice C x.length f] w (Gives (.bool R) w)) := Lib.hid fun A B C c d f w h1 h2 h3 => by rw [← hR]; exact implFit_any A B C c d f t m x w h1 h2 h3 hl hm
  have HS : Hid (∀ A B C c d f w, Tab IntV w A t → Tab BoolV w B m → Tab IntV w C x → Calls Try.prog 37 #[.slice A t.length c, .slice B m.length d, .slice C x.length f] w (Gives (.bool R) w)) := Lib.hid fun A B C c d f w h1 h2 h3 => by rw [← hR]; exact specFit_any A B C c d f t m x w h1 h2 h3 hl hm
  have e1 := eqT_same t
  have e2 := eqT_same m
  have e3 := eqT_same x
  have rr : (R != R) = false := by simp
  clear hR
  go_enter Try.func12, Try.ntmps12
  go_wp2_with fail
  refine (szIntSS_any A c t 1048576 _ hx hl (by omega) (by omega)).mono ?_
  rintro e w' ⟨rfl, rfl⟩
  go_wp2_with fail
  refine (szBoolSS_any B d m _ _ hy hm (by omega) (by omega)).mono ?_
  rintro e w' ⟨rfl, rfl⟩
  go_wp2_with fail
  refine (szIntSS_any C f x _ _ hz hxl (by omega) (by omega)).mono ?_
  rintro e w' ⟨rfl, rfl⟩
  clear f1 F2 f3 g1 G2 g3 k1 K2
  go_wp2_with fail
  refine (toIntSS_any A c t _ hx ht HT.out).mono ?_
  rintro e w1 ⟨gA1, cA1, vA1, rfl, -, oA1, b1⟩
  have hA1 := oA1.tab
  clear oA1
  go_wp2_with fail
  refine (toBoolSS_any B d m _ (hy.below b1) hmm HM.out).mono ?_
  rintro e w2 ⟨gB1, cB1, vB1, rfl, -, oB1, b2⟩
  have a2 := b1.trans (b2.mono b1.size)
  have hA1 := hA1.below b2
  have hB1 := oB1.tab
  clear oB1
  go_wp2_with fail
  refine (toIntSS_any C f x _ (hz.below a2) hxx HX.out).mono ?_
  rintro e w3 ⟨gC1, cC1, vC1, rfl, -, oC1, b3⟩
  have a3 := a2.trans (b3.mono a2.size)
  have hA1 := Lib.hid (hA1.below b3)
  have hB1 := Lib.hid (hB1.below b3)
  have hC1 := Lib.hid oC1.tab
  clear oC1
  go_wp2_with fail
  refine (HS.out _ _ _ cA1 cB1 cC1 _ hA1.out hB1.out hC1.out).mono ?_
  rintro e w4 ⟨rfl, b4⟩
  have a4 := a3.trans (b4.mono a3.size)
  clear hA1 hB1 hC1
  go_wp2_with fail
  refine (toIntSS_any A c t _ (hx.below a4) ht HT.out).mono ?_
  rintro e w5 ⟨gA2, cA2, vA2, rfl, -, oA2, b5⟩
  have a5 := a4.trans (b5.mono a4.size)
  have hA2 := oA2.tab
  clear oA2
  go_wp2_with fail
  refine (toBoolSS_any B d m _ (hy.below a5) hmm HM.out).mono ?_
  rintro e w6 ⟨gB2, cB2, vB2, rfl, -, oB2, b6⟩
  have a6 := a5.trans (b6.mono a5.size)
  have hA2 := hA2.below b6
  have hB2 := oB2.tab
  clear oB2
  go_wp2_with fail
  refine (toIntSS_any C f x _ (hz.below a6) hxx HX.out).mono ?_
  rintro e w7 ⟨gC2, cC2, vC2, rfl, -, oC2, b7⟩
  have a7 := a6.trans (b7.mono a6.size)
  have hA2 := Lib.hid (hA2.below b7)
  have hB2 := Lib.hid (hB2.below b7)
  have hC2 := Lib.hid oC2.tab
  clear oC2
  go_wp2_with fail
  refine (HI.out _ _ _ cA2 cB2 cC2 _ hA2.out hB2.out hC2.out).mono ?_
  rintro e w8 ⟨rfl, b8⟩
  have a8 := a7.trans (b8.mono a7.size)
  have hA8 := Lib.hid (hA2.out.below b8)
  have hB8 := Lib.hid (hB2.out.below b8)
  have hC8 := Lib.hid (hC2.out.below b8)
  clear hA2 hB2 hC2
  go_wp2_with fail
  refine (toIntSS_any A c t _ (hx.below a8) ht HT.out).mono ?_
  rintro e w9 ⟨gA3, cA3, vA3, rfl, -, oA3, b9⟩
  have a9 := a8.trans (b9.mono a8.size)
  have hB9 := Lib.hid (hB8.out.below b9)
  have hC9 := Lib.hid (hC8.out.below b9)
  go_wp2_with fail
  refine (eqIntSS_any _ _ cA2 cA3 t t _ (hA8.out.below b9) oA3.tab hl).mono ?_
  rintro e w10 ⟨rfl, q10⟩
  have a10 := a9.trans (q10.below.mono a9.size)
  have hB10 := Lib.hid (hB9.out.below q10.below)
  have hC10 := Lib.hid (hC9.out.below q10.below)
  clear oA3 hA8 hB8 hC8 hB9 hC9 q10
  go_wp2_with fail
  refine (toBoolSS_any B d m _ (hy.below a10) hmm HM.out).mono ?_
  rintro e w11 ⟨gB3, cB3, vB3, rfl, -, oB3, b11⟩
  have a11 := a10.trans (b11.mono a10.size)
  have hC11 := Lib.hid (hC10.out.below b11)
  go_wp2_with fail
  refine (eqBoolSS_any _ _ cB2 cB3 m m _ (hB10.out.below b11) oB3.tab hm).mono ?_
  rintro e w12 ⟨rfl, q12⟩
  have a12 := a11.trans (q12.below.mono a11.size)
  have hC12 := Lib.hid (hC11.out.below q12.below)
  clear oB3 hB10 hC10 hC11 q12
  go_wp2_with fail
  refine (toIntSS_any C f x _ (hz.below a12) hxx HX.out).mono ?_
  rintro e w13 ⟨gC3, cC3, vC3, rfl, -, oC3, b13⟩
  have a13 := a12.trans (b13.mono a12.size)
  go_wp2_with fail
  refine (eqIntSS_any _ _ cC2 cC3 x x _ (hC12.out.below b13) oC3.tab hxl).mono ?_
  rintro e w14 ⟨rfl, q14⟩
  have a14 := a13.trans (q14.below.mono a13.size)
  clear oC3 hC12 q14
  go_wp2_with fail
  go_ret
  exact ⟨rfl, a14⟩
end Go.Proofs.Ytncnghmadeghlaa.fnExactFitTables
