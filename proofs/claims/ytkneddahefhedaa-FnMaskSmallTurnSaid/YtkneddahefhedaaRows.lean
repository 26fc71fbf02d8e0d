/-
  No cell of these rows narrows 'for every input' (looked for: loops, veiled, ifaces, maps, wideKeys, modest, calm, conditions, laid).
  DERIVED. THE GIVEN ROWS OF THIS SEAT. 11 by the template 'for every input the law returns true; each argument reads behind the call as it read before'; 0 by the template 'total and deterministic' (their statements: YtkneddahefhedaaTotals.lean).
  GIVEN WITH THE SEED: the statements are not yours to turn. If you find one false, say at which input.
  Laid BY PROGRAM, IN A SANDBOX (cutbox-rows.mjs): the forced cells as the released guide's own fill.sh prints them over the translation d296a5809e22201b… (all of the seat's roots in one cut). By AI agents, Wed Nov 11 2026. No macro, syntax, notation, axiom, sorry.
-/
import Derived.Test.YtkneddahefhedaaChecked
import GoSem.Claim
import GoSem.ClaimJoined
import GoSem.ClaimMapViews
import Derived.JoinedTies
import Derived.KernelRfl
namespace Go.Proofs.Ytkneddahefhedaa
/- THE CELL 'sum', in the pinned program and in every row, IS THE sha256 OF THE DUMP (.gsa) THAT YtkneddahefhedaaProg.lean LOADS. Nothing in Lean hashes anything: it is a label: what it is worth is what the hold of that sum in a sandbox is worth. -/
noncomputable def Try.pinned : Pinned := { name := "ytkneddahefhedaa", sum := "d296a5809e22201bddcf63e10345479308310ce4eb4583ee54492d598752ee52", checked := Try.checked }
namespace Rows
def none {H : Type} : Left H := { results := [], args := [] }

/-- 'laws.FnTableTurn': WHATEVER THE INPUT: true; the input reads as it did. -/
def fnTableTurnSpec : ChangeSpec := { name := "fnTableTurn", fn := fun _ => fun
  | [d] => { results := [.lit (.bool true)], args := [d] }
  | _ => none }
def fnTableTurnRow : OpenClaim := { program := "ytkneddahefhedaa", sum := "d296a5809e22201bddcf63e10345479308310ce4eb4583ee54492d598752ee52", func := "loop.example/disclosurecontrol/laws.FnTableTurn", spec := "fnTableTurn", unfollowed := true, recurses := true, apart := false }
def FnTableTurnSaid : Prop := fnTableTurnRow.holds Try.pinned (OpenSpec.ofChange fnTableTurnSpec)

/-- ITS FALSE NEIGHBOUR: 'it returns false'. Refute it at one input. -/
def fnTableTurnWrong : ChangeSpec := { name := "fnTableTurn", fn := fun _ => fun
  | [d] => { results := [.lit (.bool false)], args := [d] }
  | _ => none }
def FnTableTurnWrongFalsely : Prop := fnTableTurnRow.holds Try.pinned (OpenSpec.ofChange fnTableTurnWrong)

/-- 'laws.FnExactTableTotal': WHATEVER THE INPUT: true; the input reads as it did. -/
def fnExactTableTotalSpec : ChangeSpec := { name := "fnExactTableTotal", fn := fun _ => fun
  | [d] => { results := [.lit (.bool true)], args := [d] }
  | _ => none }
def fnExactTableTotalRow : OpenClaim := { program := "ytkneddahefhedaa", sum := "d296a5809e22201bddcf63e10345479308310ce4eb4583ee54492d598752ee52", func := "loop.example/disclosurecontrol/laws.FnExactTableTotal", spec := "fnExactTableTotal", unfollowed := true, recurses := true, apart := false }
def FnExactTableTotalSaid : Prop := fnExactTableTotalRow.holds Try.pinned (OpenSpec.ofChange fnExactTableTotalSpec)

/-- ITS FALSE NEIGHBOUR: 'it returns false'. Refute it at one input. -/
def fnExactTableTotalWrong : ChangeSpec := { name := "fnExactTableTotal", fn := fun _ => fun
  | [d] => { results := [.lit (.bool false)], args := [d] }
  | _ => none }
def FnExactTableTotalWrongFalsely : Prop := fnExactTableTotalRow.holds Try.pinned (OpenSpec.ofChange fnExactTableTotalWrong)

/-- 'laws.FnMaskSmall': WHATEVER THE INPUT: true; the input reads as it did. -/
def fnMaskSmallSpec : ChangeSpec := { name := "fnMaskSmall", fn := fun _ => fun
  | [d] => { results := [.lit (.bool true)], args := [d] }
  | _ => none }
def fnMaskSmallRow : OpenClaim := { program := "ytkneddahefhedaa", sum := "d296a5809e22201bddcf63e10345479308310ce4eb4583ee54492d598752ee52", func := "loop.example/disclosurecontrol/laws.FnMaskSmall", spec := "fnMaskSmall", apart := false }
def FnMaskSmallSaid : Prop := fnMaskSmallRow.holds Try.pinned (OpenSpec.ofChange fnMaskSmallSpec)

/-- ITS FALSE NEIGHBOUR: 'it returns false'. Refute it at one input. -/
def fnMaskSmallWrong : ChangeSpec := { name := "fnMaskSmall", fn := fun _ => fun
  | [d] => { results := [.lit (.bool false)], args := [d] }
  | _ => none }
def FnMaskSmallWrongFalsely : Prop := fnMaskSmallRow.holds Try.pinned (OpenSpec.ofChange fnMaskSmallWrong)

/-- 'laws.FnExactTableSums': WHATEVER THE INPUT: true; the input reads as it did. -/
def fnExactTableSumsSpec : ChangeSpec := { name := "fnExactTableSums", fn := fun _ => fun
  | [d] => { results := [.lit (.bool true)], args := [d] }
  | _ => none }
def fnExactTableSumsRow : OpenClaim := { program := "ytkneddahefhedaa", sum := "d296a5809e22201bddcf63e10345479308310ce4eb4583ee54492d598752ee52", func := "loop.example/disclosurecontrol/laws.FnExactTableSums", spec := "fnExactTableSums", unfollowed := true, recurses := true, apart := false }
def FnExactTableSumsSaid : Prop := fnExactTableSumsRow.holds Try.pinned (OpenSpec.ofChange fnExactTableSumsSpec)

/-- ITS FALSE NEIGHBOUR: 'it returns false'. Refute it at one input. -/
def fnExactTableSumsWrong : ChangeSpec := { name := "fnExactTableSums", fn := fun _ => fun
  | [d] => { results := [.lit (.bool false)], args := [d] }
  | _ => none }
def FnExactTableSumsWrongFalsely : Prop := fnExactTableSumsRow.holds Try.pinned (OpenSpec.ofChange fnExactTableSumsWrong)

/-- 'laws.FnTableSums': WHATEVER THE INPUT: true; the input reads as it did. -/
def fnTableSumsSpec : ChangeSpec := { name := "fnTableSums", fn := fun _ => fun
  | [d] => { results := [.lit (.bool true)], args := [d] }
  | _ => none }
def fnTableSumsRow : OpenClaim := { program := "ytkneddahefhedaa", sum := "d296a5809e22201bddcf63e10345479308310ce4eb4583ee54492d598752ee52", func := "loop.example/disclosurecontrol/laws.FnTableSums", spec := "fnTableSums", unfollowed := true, recurses := true, apart := false }
def FnTableSumsSaid : Prop := fnTableSumsRow.holds Try.pinned (OpenSpec.ofChange fnTableSumsSpec)

/-- ITS FALSE NEIGHBOUR: 'it returns false'. Refute it at one input. -/
def fnTableSumsWrong : ChangeSpec := { name := "fnTableSums", fn := fun _ => fun
  | [d] => { results := [.lit (.bool false)], args := [d] }
  | _ => none }
def FnTableSumsWrongFalsely : Prop := fnTableSumsRow.holds Try.pinned (OpenSpec.ofChange fnTableSumsWrong)

/-- 'laws.FnTableSumsRow': WHATEVER THE INPUT: true; the input reads as it did. -/
def fnTableSumsRowSpec : ChangeSpec := { name := "fnTableSumsRow", fn := fun _ => fun
  | [d1, d2] => { results := [.lit (.bool true)], args := [d1, d2] }
  | _ => none }
def fnTableSumsRowRow : OpenClaim := { program := "ytkneddahefhedaa", sum := "d296a5809e22201bddcf63e10345479308310ce4eb4583ee54492d598752ee52", func := "loop.example/disclosurecontrol/laws.FnTableSumsRow", spec := "fnTableSumsRow", unfollowed := true, recurses := true, apart := false }
def FnTableSumsRowSaid : Prop := fnTableSumsRowRow.holds Try.pinned (OpenSpec.ofChange fnTableSumsRowSpec)

/-- ITS FALSE NEIGHBOUR: 'it returns false'. Refute it at one input. -/
def fnTableSumsRowWrong : ChangeSpec := { name := "fnTableSumsRow", fn := fun _ => fun
  | [d1, d2] => { results := [.lit (.bool false)], args := [d1, d2] }
  | _ => none }
def FnTableSumsRowWrongFalsely : Prop := fnTableSumsRowRow.holds Try.pinned (OpenSpec.ofChange fnTableSumsRowWrong)

/-- 'laws.FnTableTotalParts': WHATEVER THE INPUT: true; the input reads as it did. -/
def fnTableTotalPartsSpec : ChangeSpec := { name := "fnTableTotalParts", fn := fun _ => fun
  | [d1, d2] => { results := [.lit (.bool true)], args := [d1, d2] }
  | _ => none }
def fnTableTotalPartsRow : OpenClaim := { program := "ytkneddahefhedaa", sum := "d296a5809e22201bddcf63e10345479308310ce4eb4583ee54492d598752ee52", func := "loop.example/disclosurecontrol/laws.FnTableTotalParts", spec := "fnTableTotalParts", unfollowed := true, recurses := true, apart := false }
def FnTableTotalPartsSaid : Prop := fnTableTotalPartsRow.holds Try.pinned (OpenSpec.ofChange fnTableTotalPartsSpec)

/-- ITS FALSE NEIGHBOUR: 'it returns false'. Refute it at one input. -/
def fnTableTotalPartsWrong : ChangeSpec := { name := "fnTableTotalParts", fn := fun _ => fun
  | [d1, d2] => { results := [.lit (.bool false)], args := [d1, d2] }
  | _ => none }
def FnTableTotalPartsWrongFalsely : Prop := fnTableTotalPartsRow.holds Try.pinned (OpenSpec.ofChange fnTableTotalPartsWrong)

/-- 'laws.FnExactMaskValid': WHATEVER THE INPUT: true; the input reads as it did. -/
def fnExactMaskValidSpec : ChangeSpec := { name := "fnExactMaskValid", fn := fun _ => fun
  | [d1, d2] => { results := [.lit (.bool true)], args := [d1, d2] }
  | _ => none }
def fnExactMaskValidRow : OpenClaim := { program := "ytkneddahefhedaa", sum := "d296a5809e22201bddcf63e10345479308310ce4eb4583ee54492d598752ee52", func := "loop.example/disclosurecontrol/laws.FnExactMaskValid", spec := "fnExactMaskValid", apart := false }
def FnExactMaskValidSaid : Prop := fnExactMaskValidRow.holds Try.pinned (OpenSpec.ofChange fnExactMaskValidSpec)

/-- ITS FALSE NEIGHBOUR: 'it returns false'. Refute it at one input. -/
def fnExactMaskValidWrong : ChangeSpec := { name := "fnExactMaskValid", fn := fun _ => fun
  | [d1, d2] => { results := [.lit (.bool false)], args := [d1, d2] }
  | _ => none }
def FnExactMaskValidWrongFalsely : Prop := fnExactMaskValidRow.holds Try.pinned (OpenSpec.ofChange fnExactMaskValidWrong)

/-- 'laws.FnExactTableTurn': WHATEVER THE INPUT: true; the input reads as it did. -/
def fnExactTableTurnSpec : ChangeSpec := { name := "fnExactTableTurn", fn := fun _ => fun
  | [d] => { results := [.lit (.bool true)], args := [d] }
  | _ => none }
def fnExactTableTurnRow : OpenClaim := { program := "ytkneddahefhedaa", sum := "d296a5809e22201bddcf63e10345479308310ce4eb4583ee54492d598752ee52", func := "loop.example/disclosurecontrol/laws.FnExactTableTurn", spec := "fnExactTableTurn", unfollowed := true, recurses := true, apart := false }
def FnExactTableTurnSaid : Prop := fnExactTableTurnRow.holds Try.pinned (OpenSpec.ofChange fnExactTableTurnSpec)

/-- ITS FALSE NEIGHBOUR: 'it returns false'. Refute it at one input. -/
def fnExactTableTurnWrong : ChangeSpec := { name := "fnExactTableTurn", fn := fun _ => fun
  | [d] => { results := [.lit (.bool false)], args := [d] }
  | _ => none }
def FnExactTableTurnWrongFalsely : Prop := fnExactTableTurnRow.holds Try.pinned (OpenSpec.ofChange fnExactTableTurnWrong)

/-- 'laws.FnMaskSmallTurn': WHATEVER THE INPUT: true; the input reads as it did. -/
def fnMaskSmallTurnSpec : ChangeSpec := { name := "fnMaskSmallTurn", fn := fun _ => fun
  | [d] => { results := [.lit (.bool true)], args := [d] }
  | _ => none }
def fnMaskSmallTurnRow : OpenClaim := { program := "ytkneddahefhedaa", sum := "d296a5809e22201bddcf63e10345479308310ce4eb4583ee54492d598752ee52", func := "loop.example/disclosurecontrol/laws.FnMaskSmallTurn", spec := "fnMaskSmallTurn", unfollowed := true, recurses := true, apart := false }
def FnMaskSmallTurnSaid : Prop := fnMaskSmallTurnRow.holds Try.pinned (OpenSpec.ofChange fnMaskSmallTurnSpec)

/-- ITS FALSE NEIGHBOUR: 'it returns false'. Refute it at one input. -/
def fnMaskSmallTurnWrong : ChangeSpec := { name := "fnMaskSmallTurn", fn := fun _ => fun
  | [d] => { results := [.lit (.bool false)], args := [d] }
  | _ => none }
def FnMaskSmallTurnWrongFalsely : Prop := fnMaskSmallTurnRow.holds Try.pinned (OpenSpec.ofChange fnMaskSmallTurnWrong)

/-- 'laws.FnExactMaskSmall': WHATEVER THE INPUT: true; the input reads as it did. -/
def fnExactMaskSmallSpec : ChangeSpec := { name := "fnExactMaskSmall", fn := fun _ => fun
  | [d1, d2] => { results := [.lit (.bool true)], args := [d1, d2] }
  | _ => none }
def fnExactMaskSmallRow : OpenClaim := { program := "ytkneddahefhedaa", sum := "d296a5809e22201bddcf63e10345479308310ce4eb4583ee54492d598752ee52", func := "loop.example/disclosurecontrol/laws.FnExactMaskSmall", spec := "fnExactMaskSmall", apart := false }
def FnExactMaskSmallSaid : Prop := fnExactMaskSmallRow.holds Try.pinned (OpenSpec.ofChange fnExactMaskSmallSpec)

/-- ITS FALSE NEIGHBOUR: 'it returns false'. Refute it at one input. -/
def fnExactMaskSmallWrong : ChangeSpec := { name := "fnExactMaskSmall", fn := fun _ => fun
  | [d1, d2] => { results := [.lit (.bool false)], args := [d1, d2] }
  | _ => none }
def FnExactMaskSmallWrongFalsely : Prop := fnExactMaskSmallRow.holds Try.pinned (OpenSpec.ofChange fnExactMaskSmallWrong)

/- THE SECOND FORM. 'bulk': how many values and letters a reading holds, each counted each time it is reached (what is shared counts as often as it is met; a slice's spare places count too). A statement '..UptoSaid' is the law's where the arguments, and the package variables that the reading takes, are together of bulk at most 1048576: NARROWER than '..Said'. Prove '..Said' where nothing that the law and all that it calls make is longer than what came in: it says more and counts as full. Else prove '..UptoSaid'. A law counts once. -/
mutual
def uptoBulk {H : Type} : DataW H → Nat
  | .lit (.string bytes) => bytes.length + 1
  | .lit _ => 1
  | .nil => 1
  | .ptr d => uptoBulk d + 1
  | .slice elems spare => uptoBulkAll elems + uptoBulkAll spare + 1
  | .agg parts => uptoBulkAll parts + 1
  | .iface _ d => uptoBulk d + 1
  | .map entries => uptoBulkEntries entries + 1
  | .held _ => 1
def uptoBulkAll {H : Type} : List (DataW H) → Nat
  | [] => 0
  | d :: r => uptoBulk d + uptoBulkAll r
def uptoBulkEntries {H : Type} : List (Lit × DataW H) → Nat
  | [] => 0
  | x :: r => uptoBulkEntry x + uptoBulkEntries r
def uptoBulkEntry {H : Type} : Lit × DataW H → Nat
  | (.string bytes, d) => bytes.length + uptoBulk d + 1
  | (_, d) => uptoBulk d + 1
 end
def uptoSmall : (H : Type) → List (DataW H) → Bool := fun _ ds => decide (uptoBulkAll ds ≤ 1048576)
def OpenSpec.upto (s : _root_.Go.ChangeSpec) : _root_.Go.OpenSpec := { _root_.Go.OpenSpec.ofChange s with cond := some uptoSmall }

/-- 'laws.FnTableTurn', WHERE WHAT IT READS IS OF BULK AT MOST 1048576: true; the input reads as it did. -/
def fnTableTurnUptoRow : OpenClaim := { program := "ytkneddahefhedaa", sum := "d296a5809e22201bddcf63e10345479308310ce4eb4583ee54492d598752ee52", func := "loop.example/disclosurecontrol/laws.FnTableTurn", spec := "fnTableTurn", unfollowed := true, recurses := true, apart := false, narrowed := true }
def FnTableTurnUptoSaid : Prop := fnTableTurnUptoRow.holds Try.pinned (OpenSpec.upto fnTableTurnSpec)

/-- 'laws.FnExactTableTotal', WHERE WHAT IT READS IS OF BULK AT MOST 1048576: true; the input reads as it did. -/
def fnExactTableTotalUptoRow : OpenClaim := { program := "ytkneddahefhedaa", sum := "d296a5809e22201bddcf63e10345479308310ce4eb4583ee54492d598752ee52", func := "loop.example/disclosurecontrol/laws.FnExactTableTotal", spec := "fnExactTableTotal", unfollowed := true, recurses := true, apart := false, narrowed := true }
def FnExactTableTotalUptoSaid : Prop := fnExactTableTotalUptoRow.holds Try.pinned (OpenSpec.upto fnExactTableTotalSpec)

/-- 'laws.FnMaskSmall', WHERE WHAT IT READS IS OF BULK AT MOST 1048576: true; the input reads as it did. -/
def fnMaskSmallUptoRow : OpenClaim := { program := "ytkneddahefhedaa", sum := "d296a5809e22201bddcf63e10345479308310ce4eb4583ee54492d598752ee52", func := "loop.example/disclosurecontrol/laws.FnMaskSmall", spec := "fnMaskSmall", apart := false, narrowed := true }
def FnMaskSmallUptoSaid : Prop := fnMaskSmallUptoRow.holds Try.pinned (OpenSpec.upto fnMaskSmallSpec)

/-- 'laws.FnExactTableSums', WHERE WHAT IT READS IS OF BULK AT MOST 1048576: true; the input reads as it did. -/
def fnExactTableSumsUptoRow : OpenClaim := { program := "ytkneddahefhedaa", sum := "d296a5809e22201bddcf63e10345479308310ce4eb4583ee54492d598752ee52", func := "loop.example/disclosurecontrol/laws.FnExactTableSums", spec := "fnExactTableSums", unfollowed := true, recurses := true, apart := false, narrowed := true }
def FnExactTableSumsUptoSaid : Prop := fnExactTableSumsUptoRow.holds Try.pinned (OpenSpec.upto fnExactTableSumsSpec)

/-- 'laws.FnTableSums', WHERE WHAT IT READS IS OF BULK AT MOST 1048576: true; the input reads as it did. -/
def fnTableSumsUptoRow : OpenClaim := { program := "ytkneddahefhedaa", sum := "d296a5809e22201bddcf63e10345479308310ce4eb4583ee54492d598752ee52", func := "loop.example/disclosurecontrol/laws.FnTableSums", spec := "fnTableSums", unfollowed := true, recurses := true, apart := false, narrowed := true }
def FnTableSumsUptoSaid : Prop := fnTableSumsUptoRow.holds Try.pinned (OpenSpec.upto fnTableSumsSpec)

/-- 'laws.FnTableSumsRow', WHERE WHAT IT READS IS OF BULK AT MOST 1048576: true; the input reads as it did. -/
def fnTableSumsRowUptoRow : OpenClaim := { program := "ytkneddahefhedaa", sum := "d296a5809e22201bddcf63e10345479308310ce4eb4583ee54492d598752ee52", func := "loop.example/disclosurecontrol/laws.FnTableSumsRow", spec := "fnTableSumsRow", unfollowed := true, recurses := true, apart := false, narrowed := true }
def FnTableSumsRowUptoSaid : Prop := fnTableSumsRowUptoRow.holds Try.pinned (OpenSpec.upto fnTableSumsRowSpec)

/-- 'laws.FnTableTotalParts', WHERE WHAT IT READS IS OF BULK AT MOST 1048576: true; the input reads as it did. -/
def fnTableTotalPartsUptoRow : OpenClaim := { program := "ytkneddahefhedaa", sum := "d296a5809e22201bddcf63e10345479308310ce4eb4583ee54492d598752ee52", func := "loop.example/disclosurecontrol/laws.FnTableTotalParts", spec := "fnTableTotalParts", unfollowed := true, recurses := true, apart := false, narrowed := true }
def FnTableTotalPartsUptoSaid : Prop := fnTableTotalPartsUptoRow.holds Try.pinned (OpenSpec.upto fnTableTotalPartsSpec)

/-- 'laws.FnExactMaskValid', WHERE WHAT IT READS IS OF BULK AT MOST 1048576: true; the input reads as it did. -/
def fnExactMaskValidUptoRow : OpenClaim := { program := "ytkneddahefhedaa", sum := "d296a5809e22201bddcf63e10345479308310ce4eb4583ee54492d598752ee52", func := "loop.example/disclosurecontrol/laws.FnExactMaskValid", spec := "fnExactMaskValid", apart := false, narrowed := true }
def FnExactMaskValidUptoSaid : Prop := fnExactMaskValidUptoRow.holds Try.pinned (OpenSpec.upto fnExactMaskValidSpec)

/-- 'laws.FnExactTableTurn', WHERE WHAT IT READS IS OF BULK AT MOST 1048576: true; the input reads as it did. -/
def fnExactTableTurnUptoRow : OpenClaim := { program := "ytkneddahefhedaa", sum := "d296a5809e22201bddcf63e10345479308310ce4eb4583ee54492d598752ee52", func := "loop.example/disclosurecontrol/laws.FnExactTableTurn", spec := "fnExactTableTurn", unfollowed := true, recurses := true, apart := false, narrowed := true }
def FnExactTableTurnUptoSaid : Prop := fnExactTableTurnUptoRow.holds Try.pinned (OpenSpec.upto fnExactTableTurnSpec)

/-- 'laws.FnMaskSmallTurn', WHERE WHAT IT READS IS OF BULK AT MOST 1048576: true; the input reads as it did. -/
def fnMaskSmallTurnUptoRow : OpenClaim := { program := "ytkneddahefhedaa", sum := "d296a5809e22201bddcf63e10345479308310ce4eb4583ee54492d598752ee52", func := "loop.example/disclosurecontrol/laws.FnMaskSmallTurn", spec := "fnMaskSmallTurn", unfollowed := true, recurses := true, apart := false, narrowed := true }
def FnMaskSmallTurnUptoSaid : Prop := fnMaskSmallTurnUptoRow.holds Try.pinned (OpenSpec.upto fnMaskSmallTurnSpec)

/-- 'laws.FnExactMaskSmall', WHERE WHAT IT READS IS OF BULK AT MOST 1048576: true; the input reads as it did. -/
def fnExactMaskSmallUptoRow : OpenClaim := { program := "ytkneddahefhedaa", sum := "d296a5809e22201bddcf63e10345479308310ce4eb4583ee54492d598752ee52", func := "loop.example/disclosurecontrol/laws.FnExactMaskSmall", spec := "fnExactMaskSmall", apart := false, narrowed := true }
def FnExactMaskSmallUptoSaid : Prop := fnExactMaskSmallUptoRow.holds Try.pinned (OpenSpec.upto fnExactMaskSmallSpec)

end Rows
end Go.Proofs.Ytkneddahefhedaa
