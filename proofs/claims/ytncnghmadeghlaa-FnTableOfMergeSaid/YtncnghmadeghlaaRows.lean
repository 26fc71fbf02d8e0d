/-
  No cell of these rows narrows 'for every input' (looked for: loops, veiled, ifaces, maps, wideKeys, modest, calm, conditions, laid).
  DERIVED. THE GIVEN ROWS OF THIS SEAT. 12 by the template 'for every input the law returns true; each argument reads behind the call as it read before'; 0 by the template 'total and deterministic' (their statements: YtncnghmadeghlaaTotals.lean).
  GIVEN WITH THE SEED: the statements are not yours to turn. If you find one false, say at which input.
  Laid BY PROGRAM, IN A SANDBOX (cutbox-rows.mjs): the forced cells as the released guide's own fill.sh prints them over the translation 9e8e4f2cea962c06… (all of the seat's roots in one cut). By AI agents, Wed Nov 11 2026. No macro, syntax, notation, axiom, sorry.
-/
import Derived.Test.YtncnghmadeghlaaChecked
import GoSem.Claim
import GoSem.ClaimJoined
import GoSem.ClaimMapViews
import Derived.JoinedTies
import Derived.KernelRfl
namespace Go.Proofs.Ytncnghmadeghlaa
/- THE CELL 'sum', in the pinned program and in every row, IS THE sha256 OF THE DUMP (.gsa) THAT YtncnghmadeghlaaProg.lean LOADS. Nothing in Lean hashes anything: it is a label: what it is worth is what the hold of that sum in a sandbox is worth. -/
noncomputable def Try.pinned : Pinned := { name := "ytncnghmadeghlaa", sum := "9e8e4f2cea962c063e8fa6c5fa6e872d8f1661407331c803837ac19952881f33", checked := Try.checked }
namespace Rows
def none {H : Type} : Left H := { results := [], args := [] }

/-- 'laws.FnExactTableOf': WHATEVER THE INPUT: true; the input reads as it did. -/
def fnExactTableOfSpec : ChangeSpec := { name := "fnExactTableOf", fn := fun _ => fun
  | [d] => { results := [.lit (.bool true)], args := [d] }
  | _ => none }
def fnExactTableOfRow : OpenClaim := { program := "ytncnghmadeghlaa", sum := "9e8e4f2cea962c063e8fa6c5fa6e872d8f1661407331c803837ac19952881f33", func := "loop.example/disclosurecontrol/laws.FnExactTableOf", spec := "fnExactTableOf", apart := false }
def FnExactTableOfSaid : Prop := fnExactTableOfRow.holds Try.pinned (OpenSpec.ofChange fnExactTableOfSpec)

/-- ITS FALSE NEIGHBOUR: 'it returns false'. Refute it at one input. -/
def fnExactTableOfWrong : ChangeSpec := { name := "fnExactTableOf", fn := fun _ => fun
  | [d] => { results := [.lit (.bool false)], args := [d] }
  | _ => none }
def FnExactTableOfWrongFalsely : Prop := fnExactTableOfRow.holds Try.pinned (OpenSpec.ofChange fnExactTableOfWrong)

/-- 'laws.FnExactTableFold': WHATEVER THE INPUT: true; the input reads as it did. -/
def fnExactTableFoldSpec : ChangeSpec := { name := "fnExactTableFold", fn := fun _ => fun
  | [d1, d2, d3] => { results := [.lit (.bool true)], args := [d1, d2, d3] }
  | _ => none }
def fnExactTableFoldRow : OpenClaim := { program := "ytncnghmadeghlaa", sum := "9e8e4f2cea962c063e8fa6c5fa6e872d8f1661407331c803837ac19952881f33", func := "loop.example/disclosurecontrol/laws.FnExactTableFold", spec := "fnExactTableFold", apart := false }
def FnExactTableFoldSaid : Prop := fnExactTableFoldRow.holds Try.pinned (OpenSpec.ofChange fnExactTableFoldSpec)

/-- ITS FALSE NEIGHBOUR: 'it returns false'. Refute it at one input. -/
def fnExactTableFoldWrong : ChangeSpec := { name := "fnExactTableFold", fn := fun _ => fun
  | [d1, d2, d3] => { results := [.lit (.bool false)], args := [d1, d2, d3] }
  | _ => none }
def FnExactTableFoldWrongFalsely : Prop := fnExactTableFoldRow.holds Try.pinned (OpenSpec.ofChange fnExactTableFoldWrong)

/-- 'laws.FnTableOfAdd': WHATEVER THE INPUT: true; the input reads as it did. -/
def fnTableOfAddSpec : ChangeSpec := { name := "fnTableOfAdd", fn := fun _ => fun
  | [d1, d2] => { results := [.lit (.bool true)], args := [d1, d2] }
  | _ => none }
def fnTableOfAddRow : OpenClaim := { program := "ytncnghmadeghlaa", sum := "9e8e4f2cea962c063e8fa6c5fa6e872d8f1661407331c803837ac19952881f33", func := "loop.example/disclosurecontrol/laws.FnTableOfAdd", spec := "fnTableOfAdd", unfollowed := true, recurses := true, apart := false }
def FnTableOfAddSaid : Prop := fnTableOfAddRow.holds Try.pinned (OpenSpec.ofChange fnTableOfAddSpec)

/-- ITS FALSE NEIGHBOUR: 'it returns false'. Refute it at one input. -/
def fnTableOfAddWrong : ChangeSpec := { name := "fnTableOfAdd", fn := fun _ => fun
  | [d1, d2] => { results := [.lit (.bool false)], args := [d1, d2] }
  | _ => none }
def FnTableOfAddWrongFalsely : Prop := fnTableOfAddRow.holds Try.pinned (OpenSpec.ofChange fnTableOfAddWrong)

/-- 'laws.FnTableOfSums': WHATEVER THE INPUT: true; the input reads as it did. -/
def fnTableOfSumsSpec : ChangeSpec := { name := "fnTableOfSums", fn := fun _ => fun
  | [d] => { results := [.lit (.bool true)], args := [d] }
  | _ => none }
def fnTableOfSumsRow : OpenClaim := { program := "ytncnghmadeghlaa", sum := "9e8e4f2cea962c063e8fa6c5fa6e872d8f1661407331c803837ac19952881f33", func := "loop.example/disclosurecontrol/laws.FnTableOfSums", spec := "fnTableOfSums", unfollowed := true, recurses := true, apart := false }
def FnTableOfSumsSaid : Prop := fnTableOfSumsRow.holds Try.pinned (OpenSpec.ofChange fnTableOfSumsSpec)

/-- ITS FALSE NEIGHBOUR: 'it returns false'. Refute it at one input. -/
def fnTableOfSumsWrong : ChangeSpec := { name := "fnTableOfSums", fn := fun _ => fun
  | [d] => { results := [.lit (.bool false)], args := [d] }
  | _ => none }
def FnTableOfSumsWrongFalsely : Prop := fnTableOfSumsRow.holds Try.pinned (OpenSpec.ofChange fnTableOfSumsWrong)

/-- 'laws.FnTableOfMerge': WHATEVER THE INPUT: true; the input reads as it did. -/
def fnTableOfMergeSpec : ChangeSpec := { name := "fnTableOfMerge", fn := fun _ => fun
  | [d] => { results := [.lit (.bool true)], args := [d] }
  | _ => none }
def fnTableOfMergeRow : OpenClaim := { program := "ytncnghmadeghlaa", sum := "9e8e4f2cea962c063e8fa6c5fa6e872d8f1661407331c803837ac19952881f33", func := "loop.example/disclosurecontrol/laws.FnTableOfMerge", spec := "fnTableOfMerge", apart := false }
def FnTableOfMergeSaid : Prop := fnTableOfMergeRow.holds Try.pinned (OpenSpec.ofChange fnTableOfMergeSpec)

/-- ITS FALSE NEIGHBOUR: 'it returns false'. Refute it at one input. -/
def fnTableOfMergeWrong : ChangeSpec := { name := "fnTableOfMerge", fn := fun _ => fun
  | [d] => { results := [.lit (.bool false)], args := [d] }
  | _ => none }
def FnTableOfMergeWrongFalsely : Prop := fnTableOfMergeRow.holds Try.pinned (OpenSpec.ofChange fnTableOfMergeWrong)

/-- 'laws.FnTableFoldAll': WHATEVER THE INPUT: true; the input reads as it did. -/
def fnTableFoldAllSpec : ChangeSpec := { name := "fnTableFoldAll", fn := fun _ => fun
  | [d] => { results := [.lit (.bool true)], args := [d] }
  | _ => none }
def fnTableFoldAllRow : OpenClaim := { program := "ytncnghmadeghlaa", sum := "9e8e4f2cea962c063e8fa6c5fa6e872d8f1661407331c803837ac19952881f33", func := "loop.example/disclosurecontrol/laws.FnTableFoldAll", spec := "fnTableFoldAll", unfollowed := true, recurses := true, apart := false }
def FnTableFoldAllSaid : Prop := fnTableFoldAllRow.holds Try.pinned (OpenSpec.ofChange fnTableFoldAllSpec)

/-- ITS FALSE NEIGHBOUR: 'it returns false'. Refute it at one input. -/
def fnTableFoldAllWrong : ChangeSpec := { name := "fnTableFoldAll", fn := fun _ => fun
  | [d] => { results := [.lit (.bool false)], args := [d] }
  | _ => none }
def FnTableFoldAllWrongFalsely : Prop := fnTableFoldAllRow.holds Try.pinned (OpenSpec.ofChange fnTableFoldAllWrong)

/-- 'laws.FnTableFoldTurn': WHATEVER THE INPUT: true; the input reads as it did. -/
def fnTableFoldTurnSpec : ChangeSpec := { name := "fnTableFoldTurn", fn := fun _ => fun
  | [d] => { results := [.lit (.bool true)], args := [d] }
  | _ => none }
def fnTableFoldTurnRow : OpenClaim := { program := "ytncnghmadeghlaa", sum := "9e8e4f2cea962c063e8fa6c5fa6e872d8f1661407331c803837ac19952881f33", func := "loop.example/disclosurecontrol/laws.FnTableFoldTurn", spec := "fnTableFoldTurn", unfollowed := true, recurses := true, apart := false }
def FnTableFoldTurnSaid : Prop := fnTableFoldTurnRow.holds Try.pinned (OpenSpec.ofChange fnTableFoldTurnSpec)

/-- ITS FALSE NEIGHBOUR: 'it returns false'. Refute it at one input. -/
def fnTableFoldTurnWrong : ChangeSpec := { name := "fnTableFoldTurn", fn := fun _ => fun
  | [d] => { results := [.lit (.bool false)], args := [d] }
  | _ => none }
def FnTableFoldTurnWrongFalsely : Prop := fnTableFoldTurnRow.holds Try.pinned (OpenSpec.ofChange fnTableFoldTurnWrong)

/-- 'laws.FnTableOf': WHATEVER THE INPUT: true; the input reads as it did. -/
def fnTableOfSpec : ChangeSpec := { name := "fnTableOf", fn := fun _ => fun
  | [d] => { results := [.lit (.bool true)], args := [d] }
  | _ => none }
def fnTableOfRow : OpenClaim := { program := "ytncnghmadeghlaa", sum := "9e8e4f2cea962c063e8fa6c5fa6e872d8f1661407331c803837ac19952881f33", func := "loop.example/disclosurecontrol/laws.FnTableOf", spec := "fnTableOf", unfollowed := true, recurses := true, apart := false }
def FnTableOfSaid : Prop := fnTableOfRow.holds Try.pinned (OpenSpec.ofChange fnTableOfSpec)

/-- ITS FALSE NEIGHBOUR: 'it returns false'. Refute it at one input. -/
def fnTableOfWrong : ChangeSpec := { name := "fnTableOf", fn := fun _ => fun
  | [d] => { results := [.lit (.bool false)], args := [d] }
  | _ => none }
def FnTableOfWrongFalsely : Prop := fnTableOfRow.holds Try.pinned (OpenSpec.ofChange fnTableOfWrong)

/-- 'laws.FnTableFold': WHATEVER THE INPUT: true; the input reads as it did. -/
def fnTableFoldSpec : ChangeSpec := { name := "fnTableFold", fn := fun _ => fun
  | [d] => { results := [.lit (.bool true)], args := [d] }
  | _ => none }
def fnTableFoldRow : OpenClaim := { program := "ytncnghmadeghlaa", sum := "9e8e4f2cea962c063e8fa6c5fa6e872d8f1661407331c803837ac19952881f33", func := "loop.example/disclosurecontrol/laws.FnTableFold", spec := "fnTableFold", unfollowed := true, recurses := true, apart := false }
def FnTableFoldSaid : Prop := fnTableFoldRow.holds Try.pinned (OpenSpec.ofChange fnTableFoldSpec)

/-- ITS FALSE NEIGHBOUR: 'it returns false'. Refute it at one input. -/
def fnTableFoldWrong : ChangeSpec := { name := "fnTableFold", fn := fun _ => fun
  | [d] => { results := [.lit (.bool false)], args := [d] }
  | _ => none }
def FnTableFoldWrongFalsely : Prop := fnTableFoldRow.holds Try.pinned (OpenSpec.ofChange fnTableFoldWrong)

/-- 'laws.FnExactFitTables': WHATEVER THE INPUT: true; the input reads as it did. -/
def fnExactFitTablesSpec : ChangeSpec := { name := "fnExactFitTables", fn := fun _ => fun
  | [d1, d2, d3] => { results := [.lit (.bool true)], args := [d1, d2, d3] }
  | _ => none }
def fnExactFitTablesRow : OpenClaim := { program := "ytncnghmadeghlaa", sum := "9e8e4f2cea962c063e8fa6c5fa6e872d8f1661407331c803837ac19952881f33", func := "loop.example/disclosurecontrol/laws.FnExactFitTables", spec := "fnExactFitTables", unfollowed := true, recurses := true, apart := false }
def FnExactFitTablesSaid : Prop := fnExactFitTablesRow.holds Try.pinned (OpenSpec.ofChange fnExactFitTablesSpec)

/-- ITS FALSE NEIGHBOUR: 'it returns false'. Refute it at one input. -/
def fnExactFitTablesWrong : ChangeSpec := { name := "fnExactFitTables", fn := fun _ => fun
  | [d1, d2, d3] => { results := [.lit (.bool false)], args := [d1, d2, d3] }
  | _ => none }
def FnExactFitTablesWrongFalsely : Prop := fnExactFitTablesRow.holds Try.pinned (OpenSpec.ofChange fnExactFitTablesWrong)

/-- 'laws.FnFitSwap': WHATEVER THE INPUT: true; the input reads as it did. -/
def fnFitSwapSpec : ChangeSpec := { name := "fnFitSwap", fn := fun _ => fun
  | [d] => { results := [.lit (.bool true)], args := [d] }
  | _ => none }
def fnFitSwapRow : OpenClaim := { program := "ytncnghmadeghlaa", sum := "9e8e4f2cea962c063e8fa6c5fa6e872d8f1661407331c803837ac19952881f33", func := "loop.example/disclosurecontrol/laws.FnFitSwap", spec := "fnFitSwap", unfollowed := true, recurses := true, apart := false }
def FnFitSwapSaid : Prop := fnFitSwapRow.holds Try.pinned (OpenSpec.ofChange fnFitSwapSpec)

/-- ITS FALSE NEIGHBOUR: 'it returns false'. Refute it at one input. -/
def fnFitSwapWrong : ChangeSpec := { name := "fnFitSwap", fn := fun _ => fun
  | [d] => { results := [.lit (.bool false)], args := [d] }
  | _ => none }
def FnFitSwapWrongFalsely : Prop := fnFitSwapRow.holds Try.pinned (OpenSpec.ofChange fnFitSwapWrong)

/-- 'laws.FnFit': WHATEVER THE INPUT: true; the input reads as it did. -/
def fnFitSpec : ChangeSpec := { name := "fnFit", fn := fun _ => fun
  | [d] => { results := [.lit (.bool true)], args := [d] }
  | _ => none }
def fnFitRow : OpenClaim := { program := "ytncnghmadeghlaa", sum := "9e8e4f2cea962c063e8fa6c5fa6e872d8f1661407331c803837ac19952881f33", func := "loop.example/disclosurecontrol/laws.FnFit", spec := "fnFit", unfollowed := true, recurses := true, apart := false }
def FnFitSaid : Prop := fnFitRow.holds Try.pinned (OpenSpec.ofChange fnFitSpec)

/-- ITS FALSE NEIGHBOUR: 'it returns false'. Refute it at one input. -/
def fnFitWrong : ChangeSpec := { name := "fnFit", fn := fun _ => fun
  | [d] => { results := [.lit (.bool false)], args := [d] }
  | _ => none }
def FnFitWrongFalsely : Prop := fnFitRow.holds Try.pinned (OpenSpec.ofChange fnFitWrong)

/- THE SECOND FORM. 'bulk': how many values and letters a reading holds, each counted each time it is reached (what is shared counts as often as it is met; a slice's spare places count too). A statement '..UptoSaid' is the law's where the arguments, and the package variables that the reading takes, are together of bulk at most 1048576: NARROWER than '..Said'. Prove '..Said' where nothing that the law and all that it calls make is longer than what came in: it says more and counts as full. Else prove '..UptoSaid'. A law counts once. -/
mutual
def uptoBulk {H : Type} : DataW H → Nat
  | .lit (.string bytes) => bytes.length + 1
  | .lit _ => 1
  | .nil => 1
  | .ptr d => uptoBulk d + 1
  | .slice elems spare => uptoBulkAll elems + uptoBulkAll spare + 1
  | .agg parts => uptoBulkAll parts + 1
  | .iface _ d => uptoBulk d + 1
  | .map entries => uptoBulkEntries entries + 1
  | .held _ => 1
def uptoBulkAll {H : Type} : List (DataW H) → Nat
  | [] => 0
  | d :: r => uptoBulk d + uptoBulkAll r
def uptoBulkEntries {H : Type} : List (Lit × DataW H) → Nat
  | [] => 0
  | x :: r => uptoBulkEntry x + uptoBulkEntries r
def uptoBulkEntry {H : Type} : Lit × DataW H → Nat
  | (.string bytes, d) => bytes.length + uptoBulk d + 1
  | (_, d) => uptoBulk d + 1
 end
def uptoSmall : (H : Type) → List (DataW H) → Bool := fun _ ds => decide (uptoBulkAll ds ≤ 1048576)
def OpenSpec.upto (s : _root_.Go.ChangeSpec) : _root_.Go.OpenSpec := { _root_.Go.OpenSpec.ofChange s with cond := some uptoSmall }

/-- 'laws.FnExactTableOf', WHERE WHAT IT READS IS OF BULK AT MOST 1048576: true; the input reads as it did. -/
def fnExactTableOfUptoRow : OpenClaim := { program := "ytncnghmadeghlaa", sum := "9e8e4f2cea962c063e8fa6c5fa6e872d8f1661407331c803837ac19952881f33", func := "loop.example/disclosurecontrol/laws.FnExactTableOf", spec := "fnExactTableOf", apart := false, narrowed := true }
def FnExactTableOfUptoSaid : Prop := fnExactTableOfUptoRow.holds Try.pinned (OpenSpec.upto fnExactTableOfSpec)

/-- 'laws.FnExactTableFold', WHERE WHAT IT READS IS OF BULK AT MOST 1048576: true; the input reads as it did. -/
def fnExactTableFoldUptoRow : OpenClaim := { program := "ytncnghmadeghlaa", sum := "9e8e4f2cea962c063e8fa6c5fa6e872d8f1661407331c803837ac19952881f33", func := "loop.example/disclosurecontrol/laws.FnExactTableFold", spec := "fnExactTableFold", apart := false, narrowed := true }
def FnExactTableFoldUptoSaid : Prop := fnExactTableFoldUptoRow.holds Try.pinned (OpenSpec.upto fnExactTableFoldSpec)

/-- 'laws.FnTableOfAdd', WHERE WHAT IT READS IS OF BULK AT MOST 1048576: true; the input reads as it did. -/
def fnTableOfAddUptoRow : OpenClaim := { program := "ytncnghmadeghlaa", sum := "9e8e4f2cea962c063e8fa6c5fa6e872d8f1661407331c803837ac19952881f33", func := "loop.example/disclosurecontrol/laws.FnTableOfAdd", spec := "fnTableOfAdd", unfollowed := true, recurses := true, apart := false, narrowed := true }
def FnTableOfAddUptoSaid : Prop := fnTableOfAddUptoRow.holds Try.pinned (OpenSpec.upto fnTableOfAddSpec)

/-- 'laws.FnTableOfSums', WHERE WHAT IT READS IS OF BULK AT MOST 1048576: true; the input reads as it did. -/
def fnTableOfSumsUptoRow : OpenClaim := { program := "ytncnghmadeghlaa", sum := "9e8e4f2cea962c063e8fa6c5fa6e872d8f1661407331c803837ac19952881f33", func := "loop.example/disclosurecontrol/laws.FnTableOfSums", spec := "fnTableOfSums", unfollowed := true, recurses := true, apart := false, narrowed := true }
def FnTableOfSumsUptoSaid : Prop := fnTableOfSumsUptoRow.holds Try.pinned (OpenSpec.upto fnTableOfSumsSpec)

/-- 'laws.FnTableOfMerge', WHERE WHAT IT READS IS OF BULK AT MOST 1048576: true; the input reads as it did. -/
def fnTableOfMergeUptoRow : OpenClaim := { program := "ytncnghmadeghlaa", sum := "9e8e4f2cea962c063e8fa6c5fa6e872d8f1661407331c803837ac19952881f33", func := "loop.example/disclosurecontrol/laws.FnTableOfMerge", spec := "fnTableOfMerge", apart := false, narrowed := true }
def FnTableOfMergeUptoSaid : Prop := fnTableOfMergeUptoRow.holds Try.pinned (OpenSpec.upto fnTableOfMergeSpec)

/-- 'laws.FnTableFoldAll', WHERE WHAT IT READS IS OF BULK AT MOST 1048576: true; the input reads as it did. -/
def fnTableFoldAllUptoRow : OpenClaim := { program := "ytncnghmadeghlaa", sum := "9e8e4f2cea962c063e8fa6c5fa6e872d8f1661407331c803837ac19952881f33", func := "loop.example/disclosurecontrol/laws.FnTableFoldAll", spec := "fnTableFoldAll", unfollowed := true, recurses := true, apart := false, narrowed := true }
def FnTableFoldAllUptoSaid : Prop := fnTableFoldAllUptoRow.holds Try.pinned (OpenSpec.upto fnTableFoldAllSpec)

/-- 'laws.FnTableFoldTurn', WHERE WHAT IT READS IS OF BULK AT MOST 1048576: true; the input reads as it did. -/
def fnTableFoldTurnUptoRow : OpenClaim := { program := "ytncnghmadeghlaa", sum := "9e8e4f2cea962c063e8fa6c5fa6e872d8f1661407331c803837ac19952881f33", func := "loop.example/disclosurecontrol/laws.FnTableFoldTurn", spec := "fnTableFoldTurn", unfollowed := true, recurses := true, apart := false, narrowed := true }
def FnTableFoldTurnUptoSaid : Prop := fnTableFoldTurnUptoRow.holds Try.pinned (OpenSpec.upto fnTableFoldTurnSpec)

/-- 'laws.FnTableOf', WHERE WHAT IT READS IS OF BULK AT MOST 1048576: true; the input reads as it did. -/
def fnTableOfUptoRow : OpenClaim := { program := "ytncnghmadeghlaa", sum := "9e8e4f2cea962c063e8fa6c5fa6e872d8f1661407331c803837ac19952881f33", func := "loop.example/disclosurecontrol/laws.FnTableOf", spec := "fnTableOf", unfollowed := true, recurses := true, apart := false, narrowed := true }
def FnTableOfUptoSaid : Prop := fnTableOfUptoRow.holds Try.pinned (OpenSpec.upto fnTableOfSpec)

/-- 'laws.FnTableFold', WHERE WHAT IT READS IS OF BULK AT MOST 1048576: true; the input reads as it did. -/
def fnTableFoldUptoRow : OpenClaim := { program := "ytncnghmadeghlaa", sum := "9e8e4f2cea962c063e8fa6c5fa6e872d8f1661407331c803837ac19952881f33", func := "loop.example/disclosurecontrol/laws.FnTableFold", spec := "fnTableFold", unfollowed := true, recurses := true, apart := false, narrowed := true }
def FnTableFoldUptoSaid : Prop := fnTableFoldUptoRow.holds Try.pinned (OpenSpec.upto fnTableFoldSpec)

/-- 'laws.FnExactFitTables', WHERE WHAT IT READS IS OF BULK AT MOST 1048576: true; the input reads as it did. -/
def fnExactFitTablesUptoRow : OpenClaim := { program := "ytncnghmadeghlaa", sum := "9e8e4f2cea962c063e8fa6c5fa6e872d8f1661407331c803837ac19952881f33", func := "loop.example/disclosurecontrol/laws.FnExactFitTables", spec := "fnExactFitTables", unfollowed := true, recurses := true, apart := false, narrowed := true }
def FnExactFitTablesUptoSaid : Prop := fnExactFitTablesUptoRow.holds Try.pinned (OpenSpec.upto fnExactFitTablesSpec)

/-- 'laws.FnFitSwap', WHERE WHAT IT READS IS OF BULK AT MOST 1048576: true; the input reads as it did. -/
def fnFitSwapUptoRow : OpenClaim := { program := "ytncnghmadeghlaa", sum := "9e8e4f2cea962c063e8fa6c5fa6e872d8f1661407331c803837ac19952881f33", func := "loop.example/disclosurecontrol/laws.FnFitSwap", spec := "fnFitSwap", unfollowed := true, recurses := true, apart := false, narrowed := true }
def FnFitSwapUptoSaid : Prop := fnFitSwapUptoRow.holds Try.pinned (OpenSpec.upto fnFitSwapSpec)

/-- 'laws.FnFit', WHERE WHAT IT READS IS OF BULK AT MOST 1048576: true; the input reads as it did. -/
def fnFitUptoRow : OpenClaim := { program := "ytncnghmadeghlaa", sum := "9e8e4f2cea962c063e8fa6c5fa6e872d8f1661407331c803837ac19952881f33", func := "loop.example/disclosurecontrol/laws.FnFit", spec := "fnFit", unfollowed := true, recurses := true, apart := false, narrowed := true }
def FnFitUptoSaid : Prop := fnFitUptoRow.holds Try.pinned (OpenSpec.upto fnFitSpec)

end Rows
end Go.Proofs.Ytncnghmadeghlaa
