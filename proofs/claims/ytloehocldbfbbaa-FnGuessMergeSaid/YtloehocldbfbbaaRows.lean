/-
  No cell of these rows narrows 'for every input' (looked for: loops, veiled, ifaces, maps, wideKeys, modest, calm, conditions, laid).
  DERIVED. THE GIVEN ROWS OF THIS SEAT. 9 by the template 'for every input the law returns true; each argument reads behind the call as it read before'; 0 by the template 'total and deterministic' (their statements: YtloehocldbfbbaaTotals.lean).
  GIVEN WITH THE SEED: the statements are not yours to turn. If you find one false, say at which input.
  Laid BY PROGRAM, IN A SANDBOX (cutbox-rows.mjs): the forced cells as the released guide's own fill.sh prints them over the translation 682e664a95553106… (all of the seat's roots in one cut). By AI agents, Wed Nov 11 2026. No macro, syntax, notation, axiom, sorry.
-/
import Derived.Test.YtloehocldbfbbaaChecked
import GoSem.Claim
import GoSem.ClaimJoined
import GoSem.ClaimMapViews
import Derived.JoinedTies
import Derived.KernelRfl
namespace Go.Proofs.Ytloehocldbfbbaa
/- THE CELL 'sum', in the pinned program and in every row, IS THE sha256 OF THE DUMP (.gsa) THAT YtloehocldbfbbaaProg.lean LOADS. Nothing in Lean hashes anything: it is a label: what it is worth is what the hold of that sum in a sandbox is worth. -/
noncomputable def Try.pinned : Pinned := { name := "ytloehocldbfbbaa", sum := "682e664a95553106a59c575d9435fe5a78043755e71ef67f94eebd9b1ddd0aeb", checked := Try.checked }
namespace Rows
def none {H : Type} : Left H := { results := [], args := [] }

/-- 'laws.FnGuessTwice': WHATEVER THE INPUT: true; the input reads as it did. -/
def fnGuessTwiceSpec : ChangeSpec := { name := "fnGuessTwice", fn := fun _ => fun
  | [d1, d2] => { results := [.lit (.bool true)], args := [d1, d2] }
  | _ => none }
def fnGuessTwiceRow : OpenClaim := { program := "ytloehocldbfbbaa", sum := "682e664a95553106a59c575d9435fe5a78043755e71ef67f94eebd9b1ddd0aeb", func := "loop.example/disclosurecontrol/laws.FnGuessTwice", spec := "fnGuessTwice", unfollowed := true, recurses := true, apart := false }
def FnGuessTwiceSaid : Prop := fnGuessTwiceRow.holds Try.pinned (OpenSpec.ofChange fnGuessTwiceSpec)

/-- ITS FALSE NEIGHBOUR: 'it returns false'. Refute it at one input. -/
def fnGuessTwiceWrong : ChangeSpec := { name := "fnGuessTwice", fn := fun _ => fun
  | [d1, d2] => { results := [.lit (.bool false)], args := [d1, d2] }
  | _ => none }
def FnGuessTwiceWrongFalsely : Prop := fnGuessTwiceRow.holds Try.pinned (OpenSpec.ofChange fnGuessTwiceWrong)

/-- 'laws.FnLeadOne': WHATEVER THE INPUT: true; the input reads as it did. -/
def fnLeadOneSpec : ChangeSpec := { name := "fnLeadOne", fn := fun _ => fun
  | [d1, d2] => { results := [.lit (.bool true)], args := [d1, d2] }
  | _ => none }
def fnLeadOneRow : OpenClaim := { program := "ytloehocldbfbbaa", sum := "682e664a95553106a59c575d9435fe5a78043755e71ef67f94eebd9b1ddd0aeb", func := "loop.example/disclosurecontrol/laws.FnLeadOne", spec := "fnLeadOne", unfollowed := true, recurses := true, apart := false }
def FnLeadOneSaid : Prop := fnLeadOneRow.holds Try.pinned (OpenSpec.ofChange fnLeadOneSpec)

/-- ITS FALSE NEIGHBOUR: 'it returns false'. Refute it at one input. -/
def fnLeadOneWrong : ChangeSpec := { name := "fnLeadOne", fn := fun _ => fun
  | [d1, d2] => { results := [.lit (.bool false)], args := [d1, d2] }
  | _ => none }
def FnLeadOneWrongFalsely : Prop := fnLeadOneRow.holds Try.pinned (OpenSpec.ofChange fnLeadOneWrong)

/-- 'laws.FnSpareOrder': WHATEVER THE INPUT: true; the input reads as it did. -/
def fnSpareOrderSpec : ChangeSpec := { name := "fnSpareOrder", fn := fun _ => fun
  | [d1, d2] => { results := [.lit (.bool true)], args := [d1, d2] }
  | _ => none }
def fnSpareOrderRow : OpenClaim := { program := "ytloehocldbfbbaa", sum := "682e664a95553106a59c575d9435fe5a78043755e71ef67f94eebd9b1ddd0aeb", func := "loop.example/disclosurecontrol/laws.FnSpareOrder", spec := "fnSpareOrder", unfollowed := true, recurses := true, apart := false }
def FnSpareOrderSaid : Prop := fnSpareOrderRow.holds Try.pinned (OpenSpec.ofChange fnSpareOrderSpec)

/-- ITS FALSE NEIGHBOUR: 'it returns false'. Refute it at one input. -/
def fnSpareOrderWrong : ChangeSpec := { name := "fnSpareOrder", fn := fun _ => fun
  | [d1, d2] => { results := [.lit (.bool false)], args := [d1, d2] }
  | _ => none }
def FnSpareOrderWrongFalsely : Prop := fnSpareOrderRow.holds Try.pinned (OpenSpec.ofChange fnSpareOrderWrong)

/-- 'laws.FnGuess': WHATEVER THE INPUT: true; the input reads as it did. -/
def fnGuessSpec : ChangeSpec := { name := "fnGuess", fn := fun _ => fun
  | [d] => { results := [.lit (.bool true)], args := [d] }
  | _ => none }
def fnGuessRow : OpenClaim := { program := "ytloehocldbfbbaa", sum := "682e664a95553106a59c575d9435fe5a78043755e71ef67f94eebd9b1ddd0aeb", func := "loop.example/disclosurecontrol/laws.FnGuess", spec := "fnGuess", unfollowed := true, recurses := true, apart := false }
def FnGuessSaid : Prop := fnGuessRow.holds Try.pinned (OpenSpec.ofChange fnGuessSpec)

/-- ITS FALSE NEIGHBOUR: 'it returns false'. Refute it at one input. -/
def fnGuessWrong : ChangeSpec := { name := "fnGuess", fn := fun _ => fun
  | [d] => { results := [.lit (.bool false)], args := [d] }
  | _ => none }
def FnGuessWrongFalsely : Prop := fnGuessRow.holds Try.pinned (OpenSpec.ofChange fnGuessWrong)

/-- 'laws.FnGuessMerge': WHATEVER THE INPUT: true; the input reads as it did. -/
def fnGuessMergeSpec : ChangeSpec := { name := "fnGuessMerge", fn := fun _ => fun
  | [d] => { results := [.lit (.bool true)], args := [d] }
  | _ => none }
def fnGuessMergeRow : OpenClaim := { program := "ytloehocldbfbbaa", sum := "682e664a95553106a59c575d9435fe5a78043755e71ef67f94eebd9b1ddd0aeb", func := "loop.example/disclosurecontrol/laws.FnGuessMerge", spec := "fnGuessMerge", unfollowed := true, recurses := true, apart := false }
def FnGuessMergeSaid : Prop := fnGuessMergeRow.holds Try.pinned (OpenSpec.ofChange fnGuessMergeSpec)

/-- ITS FALSE NEIGHBOUR: 'it returns false'. Refute it at one input. -/
def fnGuessMergeWrong : ChangeSpec := { name := "fnGuessMerge", fn := fun _ => fun
  | [d] => { results := [.lit (.bool false)], args := [d] }
  | _ => none }
def FnGuessMergeWrongFalsely : Prop := fnGuessMergeRow.holds Try.pinned (OpenSpec.ofChange fnGuessMergeWrong)

/-- 'laws.FnLeadValue': WHATEVER THE INPUT: true; the input reads as it did. -/
def fnLeadValueSpec : ChangeSpec := { name := "fnLeadValue", fn := fun _ => fun
  | [d] => { results := [.lit (.bool true)], args := [d] }
  | _ => none }
def fnLeadValueRow : OpenClaim := { program := "ytloehocldbfbbaa", sum := "682e664a95553106a59c575d9435fe5a78043755e71ef67f94eebd9b1ddd0aeb", func := "loop.example/disclosurecontrol/laws.FnLeadValue", spec := "fnLeadValue", unfollowed := true, recurses := true, apart := false }
def FnLeadValueSaid : Prop := fnLeadValueRow.holds Try.pinned (OpenSpec.ofChange fnLeadValueSpec)

/-- ITS FALSE NEIGHBOUR: 'it returns false'. Refute it at one input. -/
def fnLeadValueWrong : ChangeSpec := { name := "fnLeadValue", fn := fun _ => fun
  | [d] => { results := [.lit (.bool false)], args := [d] }
  | _ => none }
def FnLeadValueWrongFalsely : Prop := fnLeadValueRow.holds Try.pinned (OpenSpec.ofChange fnLeadValueWrong)

/-- 'laws.FnSpareBound': WHATEVER THE INPUT: true; the input reads as it did. -/
def fnSpareBoundSpec : ChangeSpec := { name := "fnSpareBound", fn := fun _ => fun
  | [d] => { results := [.lit (.bool true)], args := [d] }
  | _ => none }
def fnSpareBoundRow : OpenClaim := { program := "ytloehocldbfbbaa", sum := "682e664a95553106a59c575d9435fe5a78043755e71ef67f94eebd9b1ddd0aeb", func := "loop.example/disclosurecontrol/laws.FnSpareBound", spec := "fnSpareBound", unfollowed := true, recurses := true, apart := false }
def FnSpareBoundSaid : Prop := fnSpareBoundRow.holds Try.pinned (OpenSpec.ofChange fnSpareBoundSpec)

/-- ITS FALSE NEIGHBOUR: 'it returns false'. Refute it at one input. -/
def fnSpareBoundWrong : ChangeSpec := { name := "fnSpareBound", fn := fun _ => fun
  | [d] => { results := [.lit (.bool false)], args := [d] }
  | _ => none }
def FnSpareBoundWrongFalsely : Prop := fnSpareBoundRow.holds Try.pinned (OpenSpec.ofChange fnSpareBoundWrong)

/-- 'laws.FnSpare': WHATEVER THE INPUT: true; the input reads as it did. -/
def fnSpareSpec : ChangeSpec := { name := "fnSpare", fn := fun _ => fun
  | [d] => { results := [.lit (.bool true)], args := [d] }
  | _ => none }
def fnSpareRow : OpenClaim := { program := "ytloehocldbfbbaa", sum := "682e664a95553106a59c575d9435fe5a78043755e71ef67f94eebd9b1ddd0aeb", func := "loop.example/disclosurecontrol/laws.FnSpare", spec := "fnSpare", unfollowed := true, recurses := true, apart := false }
def FnSpareSaid : Prop := fnSpareRow.holds Try.pinned (OpenSpec.ofChange fnSpareSpec)

/-- ITS FALSE NEIGHBOUR: 'it returns false'. Refute it at one input. -/
def fnSpareWrong : ChangeSpec := { name := "fnSpare", fn := fun _ => fun
  | [d] => { results := [.lit (.bool false)], args := [d] }
  | _ => none }
def FnSpareWrongFalsely : Prop := fnSpareRow.holds Try.pinned (OpenSpec.ofChange fnSpareWrong)

/-- 'laws.FnSpareLess': WHATEVER THE INPUT: true; the input reads as it did. -/
def fnSpareLessSpec : ChangeSpec := { name := "fnSpareLess", fn := fun _ => fun
  | [d] => { results := [.lit (.bool true)], args := [d] }
  | _ => none }
def fnSpareLessRow : OpenClaim := { program := "ytloehocldbfbbaa", sum := "682e664a95553106a59c575d9435fe5a78043755e71ef67f94eebd9b1ddd0aeb", func := "loop.example/disclosurecontrol/laws.FnSpareLess", spec := "fnSpareLess", unfollowed := true, recurses := true, apart := false }
def FnSpareLessSaid : Prop := fnSpareLessRow.holds Try.pinned (OpenSpec.ofChange fnSpareLessSpec)

/-- ITS FALSE NEIGHBOUR: 'it returns false'. Refute it at one input. -/
def fnSpareLessWrong : ChangeSpec := { name := "fnSpareLess", fn := fun _ => fun
  | [d] => { results := [.lit (.bool false)], args := [d] }
  | _ => none }
def FnSpareLessWrongFalsely : Prop := fnSpareLessRow.holds Try.pinned (OpenSpec.ofChange fnSpareLessWrong)

/- THE SECOND FORM. 'bulk': how many values and letters a reading holds, each counted each time it is reached (what is shared counts as often as it is met; a slice's spare places count too). A statement '..UptoSaid' is the law's where the arguments, and the package variables that the reading takes, are together of bulk at most 1048576: NARROWER than '..Said'. Prove '..Said' where nothing that the law and all that it calls make is longer than what came in: it says more and counts as full. Else prove '..UptoSaid'. A law counts once. -/
mutual
def uptoBulk {H : Type} : DataW H → Nat
  | .lit (.string bytes) => bytes.length + 1
  | .lit _ => 1
  | .nil => 1
  | .ptr d => uptoBulk d + 1
  | .slice elems spare => uptoBulkAll elems + uptoBulkAll spare + 1
  | .agg parts => uptoBulkAll parts + 1
  | .iface _ d => uptoBulk d + 1
  | .map entries => uptoBulkEntries entries + 1
  | .held _ => 1
def uptoBulkAll {H : Type} : List (DataW H) → Nat
  | [] => 0
  | d :: r => uptoBulk d + uptoBulkAll r
def uptoBulkEntries {H : Type} : List (Lit × DataW H) → Nat
  | [] => 0
  | x :: r => uptoBulkEntry x + uptoBulkEntries r
def uptoBulkEntry {H : Type} : Lit × DataW H → Nat
  | (.string bytes, d) => bytes.length + uptoBulk d + 1
  | (_, d) => uptoBulk d + 1
 end
def uptoSmall : (H : Type) → List (DataW H) → Bool := fun _ ds => decide (uptoBulkAll ds ≤ 1048576)
def OpenSpec.upto (s : _root_.Go.ChangeSpec) : _root_.Go.OpenSpec := { _root_.Go.OpenSpec.ofChange s with cond := some uptoSmall }

/-- 'laws.FnGuessTwice', WHERE WHAT IT READS IS OF BULK AT MOST 1048576: true; the input reads as it did. -/
def fnGuessTwiceUptoRow : OpenClaim := { program := "ytloehocldbfbbaa", sum := "682e664a95553106a59c575d9435fe5a78043755e71ef67f94eebd9b1ddd0aeb", func := "loop.example/disclosurecontrol/laws.FnGuessTwice", spec := "fnGuessTwice", unfollowed := true, recurses := true, apart := false, narrowed := true }
def FnGuessTwiceUptoSaid : Prop := fnGuessTwiceUptoRow.holds Try.pinned (OpenSpec.upto fnGuessTwiceSpec)

/-- 'laws.FnLeadOne', WHERE WHAT IT READS IS OF BULK AT MOST 1048576: true; the input reads as it did. -/
def fnLeadOneUptoRow : OpenClaim := { program := "ytloehocldbfbbaa", sum := "682e664a95553106a59c575d9435fe5a78043755e71ef67f94eebd9b1ddd0aeb", func := "loop.example/disclosurecontrol/laws.FnLeadOne", spec := "fnLeadOne", unfollowed := true, recurses := true, apart := false, narrowed := true }
def FnLeadOneUptoSaid : Prop := fnLeadOneUptoRow.holds Try.pinned (OpenSpec.upto fnLeadOneSpec)

/-- 'laws.FnSpareOrder', WHERE WHAT IT READS IS OF BULK AT MOST 1048576: true; the input reads as it did. -/
def fnSpareOrderUptoRow : OpenClaim := { program := "ytloehocldbfbbaa", sum := "682e664a95553106a59c575d9435fe5a78043755e71ef67f94eebd9b1ddd0aeb", func := "loop.example/disclosurecontrol/laws.FnSpareOrder", spec := "fnSpareOrder", unfollowed := true, recurses := true, apart := false, narrowed := true }
def FnSpareOrderUptoSaid : Prop := fnSpareOrderUptoRow.holds Try.pinned (OpenSpec.upto fnSpareOrderSpec)

/-- 'laws.FnGuess', WHERE WHAT IT READS IS OF BULK AT MOST 1048576: true; the input reads as it did. -/
def fnGuessUptoRow : OpenClaim := { program := "ytloehocldbfbbaa", sum := "682e664a95553106a59c575d9435fe5a78043755e71ef67f94eebd9b1ddd0aeb", func := "loop.example/disclosurecontrol/laws.FnGuess", spec := "fnGuess", unfollowed := true, recurses := true, apart := false, narrowed := true }
def FnGuessUptoSaid : Prop := fnGuessUptoRow.holds Try.pinned (OpenSpec.upto fnGuessSpec)

/-- 'laws.FnGuessMerge', WHERE WHAT IT READS IS OF BULK AT MOST 1048576: true; the input reads as it did. -/
def fnGuessMergeUptoRow : OpenClaim := { program := "ytloehocldbfbbaa", sum := "682e664a95553106a59c575d9435fe5a78043755e71ef67f94eebd9b1ddd0aeb", func := "loop.example/disclosurecontrol/laws.FnGuessMerge", spec := "fnGuessMerge", unfollowed := true, recurses := true, apart := false, narrowed := true }
def FnGuessMergeUptoSaid : Prop := fnGuessMergeUptoRow.holds Try.pinned (OpenSpec.upto fnGuessMergeSpec)

/-- 'laws.FnLeadValue', WHERE WHAT IT READS IS OF BULK AT MOST 1048576: true; the input reads as it did. -/
def fnLeadValueUptoRow : OpenClaim := { program := "ytloehocldbfbbaa", sum := "682e664a95553106a59c575d9435fe5a78043755e71ef67f94eebd9b1ddd0aeb", func := "loop.example/disclosurecontrol/laws.FnLeadValue", spec := "fnLeadValue", unfollowed := true, recurses := true, apart := false, narrowed := true }
def FnLeadValueUptoSaid : Prop := fnLeadValueUptoRow.holds Try.pinned (OpenSpec.upto fnLeadValueSpec)

/-- 'laws.FnSpareBound', WHERE WHAT IT READS IS OF BULK AT MOST 1048576: true; the input reads as it did. -/
def fnSpareBoundUptoRow : OpenClaim := { program := "ytloehocldbfbbaa", sum := "682e664a95553106a59c575d9435fe5a78043755e71ef67f94eebd9b1ddd0aeb", func := "loop.example/disclosurecontrol/laws.FnSpareBound", spec := "fnSpareBound", unfollowed := true, recurses := true, apart := false, narrowed := true }
def FnSpareBoundUptoSaid : Prop := fnSpareBoundUptoRow.holds Try.pinned (OpenSpec.upto fnSpareBoundSpec)

/-- 'laws.FnSpare', WHERE WHAT IT READS IS OF BULK AT MOST 1048576: true; the input reads as it did. -/
def fnSpareUptoRow : OpenClaim := { program := "ytloehocldbfbbaa", sum := "682e664a95553106a59c575d9435fe5a78043755e71ef67f94eebd9b1ddd0aeb", func := "loop.example/disclosurecontrol/laws.FnSpare", spec := "fnSpare", unfollowed := true, recurses := true, apart := false, narrowed := true }
def FnSpareUptoSaid : Prop := fnSpareUptoRow.holds Try.pinned (OpenSpec.upto fnSpareSpec)

/-- 'laws.FnSpareLess', WHERE WHAT IT READS IS OF BULK AT MOST 1048576: true; the input reads as it did. -/
def fnSpareLessUptoRow : OpenClaim := { program := "ytloehocldbfbbaa", sum := "682e664a95553106a59c575d9435fe5a78043755e71ef67f94eebd9b1ddd0aeb", func := "loop.example/disclosurecontrol/laws.FnSpareLess", spec := "fnSpareLess", unfollowed := true, recurses := true, apart := false, narrowed := true }
def FnSpareLessUptoSaid : Prop := fnSpareLessUptoRow.holds Try.pinned (OpenSpec.upto fnSpareLessSpec)

end Rows
end Go.Proofs.Ytloehocldbfbbaa
