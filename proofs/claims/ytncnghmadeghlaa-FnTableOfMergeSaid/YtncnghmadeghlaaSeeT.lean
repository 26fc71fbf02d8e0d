/- What a call leaves that returns a table and a flag. -/
import Derived.Test.YtncnghmadeghlaaMkW
namespace Go.Proofs.Ytncnghmadeghlaa
open Go.RowKit
/-- a table that can be read, and a flag -/
def SeeT {α : Type} (f : α → Value) (w : World) (t : List (List α)) (ok : Bool) (e : Ending) (w' : World) : Prop :=
  ∃ A c, e = .returned (.tuple #[.slice A t.length c, .bool ok]) ∧ (t.length ≤ c ∧ c ≤ maxLen) ∧ Tab f w' A t ∧ Below w.heap.size w w'
end Go.Proofs.Ytncnghmadeghlaa
