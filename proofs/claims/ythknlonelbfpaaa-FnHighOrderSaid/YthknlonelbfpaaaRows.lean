/-
  No cell of these rows narrows 'for every input' (looked for: loops, veiled, ifaces, maps, wideKeys, modest, calm, conditions, laid).
  DERIVED. THE GIVEN ROWS OF THIS SEAT. 7 by the template 'for every input the law returns true; each argument reads behind the call as it read before'; 0 by the template 'total and deterministic' (their statements: YthknlonelbfpaaaTotals.lean).
  GIVEN WITH THE SEED: the statements are not yours to turn. If you find one false, say at which input.
  Laid BY PROGRAM, IN A SANDBOX (cutbox-rows.mjs): the forced cells as the released guide's own fill.sh prints them over the translation 5a7669fe9b077ab7… (all of the seat's roots in one cut). By AI agents, Wed Nov 11 2026. No macro, syntax, notation, axiom, sorry.
-/
import Derived.Test.YthknlonelbfpaaaChecked
import GoSem.Claim
import GoSem.ClaimJoined
import GoSem.ClaimMapViews
import Derived.JoinedTies
import Derived.KernelRfl
namespace Go.Proofs.Ythknlonelbfpaaa
/- THE CELL 'sum', in the pinned program and in every row, IS THE sha256 OF THE DUMP (.gsa) THAT YthknlonelbfpaaaProg.lean LOADS. Nothing in Lean hashes anything: it is a label: what it is worth is what the hold of that sum in a sandbox is worth. -/
noncomputable def Try.pinned : Pinned := { name := "ythknlonelbfpaaa", sum := "5a7669fe9b077ab7604dfde9cd63bf4d9963db0221878fb0acd0807f41dbc9a3", checked := Try.checked }
namespace Rows
def none {H : Type} : Left H := { results := [], args := [] }

/-- 'laws.FnHighStep': WHATEVER THE INPUT: true; the input reads as it did. -/
def fnHighStepSpec : ChangeSpec := { name := "fnHighStep", fn := fun _ => fun
  | [d] => { results := [.lit (.bool true)], args := [d] }
  | _ => none }
def fnHighStepRow : OpenClaim := { program := "ythknlonelbfpaaa", sum := "5a7669fe9b077ab7604dfde9cd63bf4d9963db0221878fb0acd0807f41dbc9a3", func := "loop.example/disclosurecontrol/laws.FnHighStep", spec := "fnHighStep", unfollowed := true, recurses := true, apart := false }
def FnHighStepSaid : Prop := fnHighStepRow.holds Try.pinned (OpenSpec.ofChange fnHighStepSpec)

/-- ITS FALSE NEIGHBOUR: 'it returns false'. Refute it at one input. -/
def fnHighStepWrong : ChangeSpec := { name := "fnHighStep", fn := fun _ => fun
  | [d] => { results := [.lit (.bool false)], args := [d] }
  | _ => none }
def FnHighStepWrongFalsely : Prop := fnHighStepRow.holds Try.pinned (OpenSpec.ofChange fnHighStepWrong)

/-- 'laws.FnHighZero': WHATEVER THE INPUT: true; the input reads as it did. -/
def fnHighZeroSpec : ChangeSpec := { name := "fnHighZero", fn := fun _ => fun
  | [d] => { results := [.lit (.bool true)], args := [d] }
  | _ => none }
def fnHighZeroRow : OpenClaim := { program := "ythknlonelbfpaaa", sum := "5a7669fe9b077ab7604dfde9cd63bf4d9963db0221878fb0acd0807f41dbc9a3", func := "loop.example/disclosurecontrol/laws.FnHighZero", spec := "fnHighZero", unfollowed := true, recurses := true, apart := false }
def FnHighZeroSaid : Prop := fnHighZeroRow.holds Try.pinned (OpenSpec.ofChange fnHighZeroSpec)

/-- ITS FALSE NEIGHBOUR: 'it returns false'. Refute it at one input. -/
def fnHighZeroWrong : ChangeSpec := { name := "fnHighZero", fn := fun _ => fun
  | [d] => { results := [.lit (.bool false)], args := [d] }
  | _ => none }
def FnHighZeroWrongFalsely : Prop := fnHighZeroRow.holds Try.pinned (OpenSpec.ofChange fnHighZeroWrong)

/-- 'laws.FnHighOne': WHATEVER THE INPUT: true; the input reads as it did. -/
def fnHighOneSpec : ChangeSpec := { name := "fnHighOne", fn := fun _ => fun
  | [d] => { results := [.lit (.bool true)], args := [d] }
  | _ => none }
def fnHighOneRow : OpenClaim := { program := "ythknlonelbfpaaa", sum := "5a7669fe9b077ab7604dfde9cd63bf4d9963db0221878fb0acd0807f41dbc9a3", func := "loop.example/disclosurecontrol/laws.FnHighOne", spec := "fnHighOne", unfollowed := true, recurses := true, apart := false }
def FnHighOneSaid : Prop := fnHighOneRow.holds Try.pinned (OpenSpec.ofChange fnHighOneSpec)

/-- ITS FALSE NEIGHBOUR: 'it returns false'. Refute it at one input. -/
def fnHighOneWrong : ChangeSpec := { name := "fnHighOne", fn := fun _ => fun
  | [d] => { results := [.lit (.bool false)], args := [d] }
  | _ => none }
def FnHighOneWrongFalsely : Prop := fnHighOneRow.holds Try.pinned (OpenSpec.ofChange fnHighOneWrong)

/-- 'laws.FnHighOrder': WHATEVER THE INPUT: true; the input reads as it did. -/
def fnHighOrderSpec : ChangeSpec := { name := "fnHighOrder", fn := fun _ => fun
  | [d] => { results := [.lit (.bool true)], args := [d] }
  | _ => none }
def fnHighOrderRow : OpenClaim := { program := "ythknlonelbfpaaa", sum := "5a7669fe9b077ab7604dfde9cd63bf4d9963db0221878fb0acd0807f41dbc9a3", func := "loop.example/disclosurecontrol/laws.FnHighOrder", spec := "fnHighOrder", unfollowed := true, recurses := true, apart := false }
def FnHighOrderSaid : Prop := fnHighOrderRow.holds Try.pinned (OpenSpec.ofChange fnHighOrderSpec)

/-- ITS FALSE NEIGHBOUR: 'it returns false'. Refute it at one input. -/
def fnHighOrderWrong : ChangeSpec := { name := "fnHighOrder", fn := fun _ => fun
  | [d] => { results := [.lit (.bool false)], args := [d] }
  | _ => none }
def FnHighOrderWrongFalsely : Prop := fnHighOrderRow.holds Try.pinned (OpenSpec.ofChange fnHighOrderWrong)

/-- 'laws.FnHighPair': WHATEVER THE INPUT: true; the input reads as it did. -/
def fnHighPairSpec : ChangeSpec := { name := "fnHighPair", fn := fun _ => fun
  | [d] => { results := [.lit (.bool true)], args := [d] }
  | _ => none }
def fnHighPairRow : OpenClaim := { program := "ythknlonelbfpaaa", sum := "5a7669fe9b077ab7604dfde9cd63bf4d9963db0221878fb0acd0807f41dbc9a3", func := "loop.example/disclosurecontrol/laws.FnHighPair", spec := "fnHighPair", unfollowed := true, recurses := true, apart := false }
def FnHighPairSaid : Prop := fnHighPairRow.holds Try.pinned (OpenSpec.ofChange fnHighPairSpec)

/-- ITS FALSE NEIGHBOUR: 'it returns false'. Refute it at one input. -/
def fnHighPairWrong : ChangeSpec := { name := "fnHighPair", fn := fun _ => fun
  | [d] => { results := [.lit (.bool false)], args := [d] }
  | _ => none }
def FnHighPairWrongFalsely : Prop := fnHighPairRow.holds Try.pinned (OpenSpec.ofChange fnHighPairWrong)

/-- 'laws.FnBoundShown': WHATEVER THE INPUT: true; the input reads as it did. -/
def fnBoundShownSpec : ChangeSpec := { name := "fnBoundShown", fn := fun _ => fun
  | [d1, d2] => { results := [.lit (.bool true)], args := [d1, d2] }
  | _ => none }
def fnBoundShownRow : OpenClaim := { program := "ythknlonelbfpaaa", sum := "5a7669fe9b077ab7604dfde9cd63bf4d9963db0221878fb0acd0807f41dbc9a3", func := "loop.example/disclosurecontrol/laws.FnBoundShown", spec := "fnBoundShown", unfollowed := true, recurses := true, apart := false }
def FnBoundShownSaid : Prop := fnBoundShownRow.holds Try.pinned (OpenSpec.ofChange fnBoundShownSpec)

/-- ITS FALSE NEIGHBOUR: 'it returns false'. Refute it at one input. -/
def fnBoundShownWrong : ChangeSpec := { name := "fnBoundShown", fn := fun _ => fun
  | [d1, d2] => { results := [.lit (.bool false)], args := [d1, d2] }
  | _ => none }
def FnBoundShownWrongFalsely : Prop := fnBoundShownRow.holds Try.pinned (OpenSpec.ofChange fnBoundShownWrong)

/-- 'laws.FnHighMore': WHATEVER THE INPUT: true; the input reads as it did. -/
def fnHighMoreSpec : ChangeSpec := { name := "fnHighMore", fn := fun _ => fun
  | [d1, d2] => { results := [.lit (.bool true)], args := [d1, d2] }
  | _ => none }
def fnHighMoreRow : OpenClaim := { program := "ythknlonelbfpaaa", sum := "5a7669fe9b077ab7604dfde9cd63bf4d9963db0221878fb0acd0807f41dbc9a3", func := "loop.example/disclosurecontrol/laws.FnHighMore", spec := "fnHighMore", unfollowed := true, recurses := true, apart := false }
def FnHighMoreSaid : Prop := fnHighMoreRow.holds Try.pinned (OpenSpec.ofChange fnHighMoreSpec)

/-- ITS FALSE NEIGHBOUR: 'it returns false'. Refute it at one input. -/
def fnHighMoreWrong : ChangeSpec := { name := "fnHighMore", fn := fun _ => fun
  | [d1, d2] => { results := [.lit (.bool false)], args := [d1, d2] }
  | _ => none }
def FnHighMoreWrongFalsely : Prop := fnHighMoreRow.holds Try.pinned (OpenSpec.ofChange fnHighMoreWrong)

/- THE SECOND FORM. 'bulk': how many values and letters a reading holds, each counted each time it is reached (what is shared counts as often as it is met; a slice's spare places count too). A statement '..UptoSaid' is the law's where the arguments, and the package variables that the reading takes, are together of bulk at most 1048576: NARROWER than '..Said'. Prove '..Said' where nothing that the law and all that it calls make is longer than what came in: it says more and counts as full. Else prove '..UptoSaid'. A law counts once. -/
mutual
def uptoBulk {H : Type} : DataW H → Nat
  | .lit (.string bytes) => bytes.length + 1
  | .lit _ => 1
  | .nil => 1
  | .ptr d => uptoBulk d + 1
  | .slice elems spare => uptoBulkAll elems + uptoBulkAll spare + 1
  | .agg parts => uptoBulkAll parts + 1
  | .iface _ d => uptoBulk d + 1
  | .map entries => uptoBulkEntries entries + 1
  | .held _ => 1
def uptoBulkAll {H : Type} : List (DataW H) → Nat
  | [] => 0
  | d :: r => uptoBulk d + uptoBulkAll r
def uptoBulkEntries {H : Type} : List (Lit × DataW H) → Nat
  | [] => 0
  | x :: r => uptoBulkEntry x + uptoBulkEntries r
def uptoBulkEntry {H : Type} : Lit × DataW H → Nat
  | (.string bytes, d) => bytes.length + uptoBulk d + 1
  | (_, d) => uptoBulk d + 1
 end
def uptoSmall : (H : Type) → List (DataW H) → Bool := fun _ ds => decide (uptoBulkAll ds ≤ 1048576)
def OpenSpec.upto (s : _root_.Go.ChangeSpec) : _root_.Go.OpenSpec := { _root_.Go.OpenSpec.ofChange s with cond := some uptoSmall }

/-- 'laws.FnHighStep', WHERE WHAT IT READS IS OF BULK AT MOST 1048576: true; the input reads as it did. -/
def fnHighStepUptoRow : OpenClaim := { program := "ythknlonelbfpaaa", sum := "5a7669fe9b077ab7604dfde9cd63bf4d9963db0221878fb0acd0807f41dbc9a3", func := "loop.example/disclosurecontrol/laws.FnHighStep", spec := "fnHighStep", unfollowed := true, recurses := true, apart := false, narrowed := true }
def FnHighStepUptoSaid : Prop := fnHighStepUptoRow.holds Try.pinned (OpenSpec.upto fnHighStepSpec)

/-- 'laws.FnHighZero', WHERE WHAT IT READS IS OF BULK AT MOST 1048576: true; the input reads as it did. -/
def fnHighZeroUptoRow : OpenClaim := { program := "ythknlonelbfpaaa", sum := "5a7669fe9b077ab7604dfde9cd63bf4d9963db0221878fb0acd0807f41dbc9a3", func := "loop.example/disclosurecontrol/laws.FnHighZero", spec := "fnHighZero", unfollowed := true, recurses := true, apart := false, narrowed := true }
def FnHighZeroUptoSaid : Prop := fnHighZeroUptoRow.holds Try.pinned (OpenSpec.upto fnHighZeroSpec)

/-- 'laws.FnHighOne', WHERE WHAT IT READS IS OF BULK AT MOST 1048576: true; the input reads as it did. -/
def fnHighOneUptoRow : OpenClaim := { program := "ythknlonelbfpaaa", sum := "5a7669fe9b077ab7604dfde9cd63bf4d9963db0221878fb0acd0807f41dbc9a3", func := "loop.example/disclosurecontrol/laws.FnHighOne", spec := "fnHighOne", unfollowed := true, recurses := true, apart := false, narrowed := true }
def FnHighOneUptoSaid : Prop := fnHighOneUptoRow.holds Try.pinned (OpenSpec.upto fnHighOneSpec)

/-- 'laws.FnHighOrder', WHERE WHAT IT READS IS OF BULK AT MOST 1048576: true; the input reads as it did. -/
def fnHighOrderUptoRow : OpenClaim := { program := "ythknlonelbfpaaa", sum := "5a7669fe9b077ab7604dfde9cd63bf4d9963db0221878fb0acd0807f41dbc9a3", func := "loop.example/disclosurecontrol/laws.FnHighOrder", spec := "fnHighOrder", unfollowed := true, recurses := true, apart := false, narrowed := true }
def FnHighOrderUptoSaid : Prop := fnHighOrderUptoRow.holds Try.pinned (OpenSpec.upto fnHighOrderSpec)

/-- 'laws.FnHighPair', WHERE WHAT IT READS IS OF BULK AT MOST 1048576: true; the input reads as it did. -/
def fnHighPairUptoRow : OpenClaim := { program := "ythknlonelbfpaaa", sum := "5a7669fe9b077ab7604dfde9cd63bf4d9963db0221878fb0acd0807f41dbc9a3", func := "loop.example/disclosurecontrol/laws.FnHighPair", spec := "fnHighPair", unfollowed := true, recurses := true, apart := false, narrowed := true }
def FnHighPairUptoSaid : Prop := fnHighPairUptoRow.holds Try.pinned (OpenSpec.upto fnHighPairSpec)

/-- 'laws.FnBoundShown', WHERE WHAT IT READS IS OF BULK AT MOST 1048576: true; the input reads as it did. -/
def fnBoundShownUptoRow : OpenClaim := { program := "ythknlonelbfpaaa", sum := "5a7669fe9b077ab7604dfde9cd63bf4d9963db0221878fb0acd0807f41dbc9a3", func := "loop.example/disclosurecontrol/laws.FnBoundShown", spec := "fnBoundShown", unfollowed := true, recurses := true, apart := false, narrowed := true }
def FnBoundShownUptoSaid : Prop := fnBoundShownUptoRow.holds Try.pinned (OpenSpec.upto fnBoundShownSpec)

/-- 'laws.FnHighMore', WHERE WHAT IT READS IS OF BULK AT MOST 1048576: true; the input reads as it did. -/
def fnHighMoreUptoRow : OpenClaim := { program := "ythknlonelbfpaaa", sum := "5a7669fe9b077ab7604dfde9cd63bf4d9963db0221878fb0acd0807f41dbc9a3", func := "loop.example/disclosurecontrol/laws.FnHighMore", spec := "fnHighMore", unfollowed := true, recurses := true, apart := false, narrowed := true }
def FnHighMoreUptoSaid : Prop := fnHighMoreUptoRow.holds Try.pinned (OpenSpec.upto fnHighMoreSpec)

end Rows
end Go.Proofs.Ythknlonelbfpaaa
