/- PartsValid and PartsFew in the form that the laws use. -/
import Derived.Test.YtapmpggohcmljaaPartsFew
import Derived.Test.YtapmpggohcmljaaLst
namespace Go.Proofs.Ytapmpggohcmljaa
open Go.RowKit
set_option linter.unusedVariables false
theorem implPartsValid_g (A : Option Addr) (c : Nat) (xs : List Int) (w : World) (hx : Lst IntV w A c xs) (hl : xs.length ≤ 1048576) (hw : ∀ n ∈ xs, (Lit.int .i64 n).wf = true) :
    Calls Try.prog 10 #[.slice A xs.length c] w (Gives (.bool (partsValid xs)) w) := (implPartsValid_any A c xs w hx.1 (by unfold maxLen; omega)).mono fun _ _ h => gives_same h
theorem specPartsValid_g (A : Option Addr) (c : Nat) (xs : List Int) (w : World) (hx : Lst IntV w A c xs) (hl : xs.length ≤ 1048576) (hw : ∀ n ∈ xs, (Lit.int .i64 n).wf = true) :
    Calls Try.prog 8 #[.slice A xs.length c] w (Gives (.bool (partsValid xs)) w) := (specPartsValid_any A c xs w hx.1 (by unfold maxLen; omega)).mono fun _ _ h => gives_same h
theorem implPartsFew_g (A : Option Addr) (c : Nat) (xs : List Int) (n : Int) (w : World) (hx : Lst IntV w A c xs) (hl : xs.length ≤ 1048576) (hw : ∀ n ∈ xs, (Lit.int .i64 n).wf = true) (hn : (Lit.int .i64 n).wf = true) :
    Calls Try.prog 14 #[.slice A xs.length c, .int .i64 n] w (Gives (.bool (partsFew xs n)) w) := (implPartsFew_any A c xs n w hx.1 (by unfold maxLen; omega)).mono fun _ _ h => gives_same h
theorem specPartsFew_g (A : Option Addr) (c : Nat) (xs : List Int) (n : Int) (w : World) (hx : Lst IntV w A c xs) (hl : xs.length ≤ 1048576) (hw : ∀ n ∈ xs, (Lit.int .i64 n).wf = true) (hn : (Lit.int .i64 n).wf = true) :
    Calls Try.prog 13 #[.slice A xs.length c, .int .i64 n] w (Gives (.bool (partsFew xs n)) w) := (specPartsFew_any A c xs n w hx.1 (by unfold maxLen; omega)).mono fun _ _ h => gives_same h
end Go.Proofs.Ytapmpggohcmljaa
