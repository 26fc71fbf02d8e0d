/-
  No cell of these rows narrows 'for every input' (looked for: loops, veiled, ifaces, maps, wideKeys, modest, calm, conditions, laid).
  DERIVED. THE GIVEN ROWS OF THIS SEAT. 12 by the template 'for every input the law returns true; each argument reads behind the call as it read before'; 0 by the template 'total and deterministic' (their statements: YtajdcjimpnheoaaTotals.lean).
  GIVEN WITH THE SEED: the statements are not yours to turn. If you find one false, say at which input.
  Laid BY PROGRAM, IN A SANDBOX (cutbox-rows.mjs): the forced cells as the released guide's own fill.sh prints them over the translation 3640b796fa00f1fe… (all of the seat's roots in one cut). By AI agents, Wed Nov 11 2026. No macro, syntax, notation, axiom, sorry.
-/
import Derived.Test.YtajdcjimpnheoaaChecked
import GoSem.Claim
import GoSem.ClaimJoined
import GoSem.ClaimMapViews
import Derived.JoinedTies
import Derived.KernelRfl
namespace Go.Proofs.Ytajdcjimpnheoaa
/- THE CELL 'sum', in the pinned program and in every row, IS THE sha256 OF THE DUMP (.gsa) THAT YtajdcjimpnheoaaProg.lean LOADS. Nothing in Lean hashes anything: it is a label: what it is worth is what the hold of that sum in a sandbox is worth. -/
noncomputable def Try.pinned : Pinned := { name := "ytajdcjimpnheoaa", sum := "3640b796fa00f1feebe44c9db6cf415d3f76895066d38c737590f61967e82798", checked := Try.checked }
namespace Rows
def none {H : Type} : Left H := { results := [], args := [] }

/-- 'laws.FnTop': WHATEVER THE INPUT: true; the input reads as it did. -/
def fnTopSpec : ChangeSpec := { name := "fnTop", fn := fun _ => fun
  | [d] => { results := [.lit (.bool true)], args := [d] }
  | _ => none }
def fnTopRow : OpenClaim := { program := "ytajdcjimpnheoaa", sum := "3640b796fa00f1feebe44c9db6cf415d3f76895066d38c737590f61967e82798", func := "loop.example/disclosurecontrol/laws.FnTop", spec := "fnTop", unfollowed := true, recurses := true, apart := false }
def FnTopSaid : Prop := fnTopRow.holds Try.pinned (OpenSpec.ofChange fnTopSpec)

/-- ITS FALSE NEIGHBOUR: 'it returns false'. Refute it at one input. -/
def fnTopWrong : ChangeSpec := { name := "fnTop", fn := fun _ => fun
  | [d] => { results := [.lit (.bool false)], args := [d] }
  | _ => none }
def FnTopWrongFalsely : Prop := fnTopRow.holds Try.pinned (OpenSpec.ofChange fnTopWrong)

/-- 'laws.FnExactPartsTop': WHATEVER THE INPUT: true; the input reads as it did. -/
def fnExactPartsTopSpec : ChangeSpec := { name := "fnExactPartsTop", fn := fun _ => fun
  | [d1, d2] => { results := [.lit (.bool true)], args := [d1, d2] }
  | _ => none }
def fnExactPartsTopRow : OpenClaim := { program := "ytajdcjimpnheoaa", sum := "3640b796fa00f1feebe44c9db6cf415d3f76895066d38c737590f61967e82798", func := "loop.example/disclosurecontrol/laws.FnExactPartsTop", spec := "fnExactPartsTop", unfollowed := true, recurses := true, apart := false }
def FnExactPartsTopSaid : Prop := fnExactPartsTopRow.holds Try.pinned (OpenSpec.ofChange fnExactPartsTopSpec)

/-- ITS FALSE NEIGHBOUR: 'it returns false'. Refute it at one input. -/
def fnExactPartsTopWrong : ChangeSpec := { name := "fnExactPartsTop", fn := fun _ => fun
  | [d1, d2] => { results := [.lit (.bool false)], args := [d1, d2] }
  | _ => none }
def FnExactPartsTopWrongFalsely : Prop := fnExactPartsTopRow.holds Try.pinned (OpenSpec.ofChange fnExactPartsTopWrong)

/-- 'laws.FnExactPartsLead': WHATEVER THE INPUT: true; the input reads as it did. -/
def fnExactPartsLeadSpec : ChangeSpec := { name := "fnExactPartsLead", fn := fun _ => fun
  | [d1, d2, d3] => { results := [.lit (.bool true)], args := [d1, d2, d3] }
  | _ => none }
def fnExactPartsLeadRow : OpenClaim := { program := "ytajdcjimpnheoaa", sum := "3640b796fa00f1feebe44c9db6cf415d3f76895066d38c737590f61967e82798", func := "loop.example/disclosurecontrol/laws.FnExactPartsLead", spec := "fnExactPartsLead", unfollowed := true, recurses := true, apart := false }
def FnExactPartsLeadSaid : Prop := fnExactPartsLeadRow.holds Try.pinned (OpenSpec.ofChange fnExactPartsLeadSpec)

/-- ITS FALSE NEIGHBOUR: 'it returns false'. Refute it at one input. -/
def fnExactPartsLeadWrong : ChangeSpec := { name := "fnExactPartsLead", fn := fun _ => fun
  | [d1, d2, d3] => { results := [.lit (.bool false)], args := [d1, d2, d3] }
  | _ => none }
def FnExactPartsLeadWrongFalsely : Prop := fnExactPartsLeadRow.holds Try.pinned (OpenSpec.ofChange fnExactPartsLeadWrong)

/-- 'laws.FnExactPartsGuess': WHATEVER THE INPUT: true; the input reads as it did. -/
def fnExactPartsGuessSpec : ChangeSpec := { name := "fnExactPartsGuess", fn := fun _ => fun
  | [d1, d2] => { results := [.lit (.bool true)], args := [d1, d2] }
  | _ => none }
def fnExactPartsGuessRow : OpenClaim := { program := "ytajdcjimpnheoaa", sum := "3640b796fa00f1feebe44c9db6cf415d3f76895066d38c737590f61967e82798", func := "loop.example/disclosurecontrol/laws.FnExactPartsGuess", spec := "fnExactPartsGuess", unfollowed := true, recurses := true, apart := false }
def FnExactPartsGuessSaid : Prop := fnExactPartsGuessRow.holds Try.pinned (OpenSpec.ofChange fnExactPartsGuessSpec)

/-- ITS FALSE NEIGHBOUR: 'it returns false'. Refute it at one input. -/
def fnExactPartsGuessWrong : ChangeSpec := { name := "fnExactPartsGuess", fn := fun _ => fun
  | [d1, d2] => { results := [.lit (.bool false)], args := [d1, d2] }
  | _ => none }
def FnExactPartsGuessWrongFalsely : Prop := fnExactPartsGuessRow.holds Try.pinned (OpenSpec.ofChange fnExactPartsGuessWrong)

/-- 'laws.FnExactPartsSpare': WHATEVER THE INPUT: true; the input reads as it did. -/
def fnExactPartsSpareSpec : ChangeSpec := { name := "fnExactPartsSpare", fn := fun _ => fun
  | [d1, d2] => { results := [.lit (.bool true)], args := [d1, d2] }
  | _ => none }
def fnExactPartsSpareRow : OpenClaim := { program := "ytajdcjimpnheoaa", sum := "3640b796fa00f1feebe44c9db6cf415d3f76895066d38c737590f61967e82798", func := "loop.example/disclosurecontrol/laws.FnExactPartsSpare", spec := "fnExactPartsSpare", unfollowed := true, recurses := true, apart := false }
def FnExactPartsSpareSaid : Prop := fnExactPartsSpareRow.holds Try.pinned (OpenSpec.ofChange fnExactPartsSpareSpec)

/-- ITS FALSE NEIGHBOUR: 'it returns false'. Refute it at one input. -/
def fnExactPartsSpareWrong : ChangeSpec := { name := "fnExactPartsSpare", fn := fun _ => fun
  | [d1, d2] => { results := [.lit (.bool false)], args := [d1, d2] }
  | _ => none }
def FnExactPartsSpareWrongFalsely : Prop := fnExactPartsSpareRow.holds Try.pinned (OpenSpec.ofChange fnExactPartsSpareWrong)

/-- 'laws.FnFewNone': WHATEVER THE INPUT: true; the input reads as it did. -/
def fnFewNoneSpec : ChangeSpec := { name := "fnFewNone", fn := fun _ => fun
  | [d1, d2] => { results := [.lit (.bool true)], args := [d1, d2] }
  | _ => none }
def fnFewNoneRow : OpenClaim := { program := "ytajdcjimpnheoaa", sum := "3640b796fa00f1feebe44c9db6cf415d3f76895066d38c737590f61967e82798", func := "loop.example/disclosurecontrol/laws.FnFewNone", spec := "fnFewNone", unfollowed := true, recurses := true, apart := false }
def FnFewNoneSaid : Prop := fnFewNoneRow.holds Try.pinned (OpenSpec.ofChange fnFewNoneSpec)

/-- ITS FALSE NEIGHBOUR: 'it returns false'. Refute it at one input. -/
def fnFewNoneWrong : ChangeSpec := { name := "fnFewNone", fn := fun _ => fun
  | [d1, d2] => { results := [.lit (.bool false)], args := [d1, d2] }
  | _ => none }
def FnFewNoneWrongFalsely : Prop := fnFewNoneRow.holds Try.pinned (OpenSpec.ofChange fnFewNoneWrong)

/-- 'laws.FnTopAdd': WHATEVER THE INPUT: true; the input reads as it did. -/
def fnTopAddSpec : ChangeSpec := { name := "fnTopAdd", fn := fun _ => fun
  | [d1, d2] => { results := [.lit (.bool true)], args := [d1, d2] }
  | _ => none }
def fnTopAddRow : OpenClaim := { program := "ytajdcjimpnheoaa", sum := "3640b796fa00f1feebe44c9db6cf415d3f76895066d38c737590f61967e82798", func := "loop.example/disclosurecontrol/laws.FnTopAdd", spec := "fnTopAdd", unfollowed := true, recurses := true, apart := false }
def FnTopAddSaid : Prop := fnTopAddRow.holds Try.pinned (OpenSpec.ofChange fnTopAddSpec)

/-- ITS FALSE NEIGHBOUR: 'it returns false'. Refute it at one input. -/
def fnTopAddWrong : ChangeSpec := { name := "fnTopAdd", fn := fun _ => fun
  | [d1, d2] => { results := [.lit (.bool false)], args := [d1, d2] }
  | _ => none }
def FnTopAddWrongFalsely : Prop := fnTopAddRow.holds Try.pinned (OpenSpec.ofChange fnTopAddWrong)

/-- 'laws.FnTopSorted': WHATEVER THE INPUT: true; the input reads as it did. -/
def fnTopSortedSpec : ChangeSpec := { name := "fnTopSorted", fn := fun _ => fun
  | [d] => { results := [.lit (.bool true)], args := [d] }
  | _ => none }
def fnTopSortedRow : OpenClaim := { program := "ytajdcjimpnheoaa", sum := "3640b796fa00f1feebe44c9db6cf415d3f76895066d38c737590f61967e82798", func := "loop.example/disclosurecontrol/laws.FnTopSorted", spec := "fnTopSorted", unfollowed := true, recurses := true, apart := false }
def FnTopSortedSaid : Prop := fnTopSortedRow.holds Try.pinned (OpenSpec.ofChange fnTopSortedSpec)

/-- ITS FALSE NEIGHBOUR: 'it returns false'. Refute it at one input. -/
def fnTopSortedWrong : ChangeSpec := { name := "fnTopSorted", fn := fun _ => fun
  | [d] => { results := [.lit (.bool false)], args := [d] }
  | _ => none }
def FnTopSortedWrongFalsely : Prop := fnTopSortedRow.holds Try.pinned (OpenSpec.ofChange fnTopSortedWrong)

/-- 'laws.FnTopOrder': WHATEVER THE INPUT: true; the input reads as it did. -/
def fnTopOrderSpec : ChangeSpec := { name := "fnTopOrder", fn := fun _ => fun
  | [d1, d2] => { results := [.lit (.bool true)], args := [d1, d2] }
  | _ => none }
def fnTopOrderRow : OpenClaim := { program := "ytajdcjimpnheoaa", sum := "3640b796fa00f1feebe44c9db6cf415d3f76895066d38c737590f61967e82798", func := "loop.example/disclosurecontrol/laws.FnTopOrder", spec := "fnTopOrder", unfollowed := true, recurses := true, apart := false }
def FnTopOrderSaid : Prop := fnTopOrderRow.holds Try.pinned (OpenSpec.ofChange fnTopOrderSpec)

/-- ITS FALSE NEIGHBOUR: 'it returns false'. Refute it at one input. -/
def fnTopOrderWrong : ChangeSpec := { name := "fnTopOrder", fn := fun _ => fun
  | [d1, d2] => { results := [.lit (.bool false)], args := [d1, d2] }
  | _ => none }
def FnTopOrderWrongFalsely : Prop := fnTopOrderRow.holds Try.pinned (OpenSpec.ofChange fnTopOrderWrong)

/-- 'laws.FnLead': WHATEVER THE INPUT: true; the input reads as it did. -/
def fnLeadSpec : ChangeSpec := { name := "fnLead", fn := fun _ => fun
  | [d] => { results := [.lit (.bool true)], args := [d] }
  | _ => none }
def fnLeadRow : OpenClaim := { program := "ytajdcjimpnheoaa", sum := "3640b796fa00f1feebe44c9db6cf415d3f76895066d38c737590f61967e82798", func := "loop.example/disclosurecontrol/laws.FnLead", spec := "fnLead", unfollowed := true, recurses := true, apart := false }
def FnLeadSaid : Prop := fnLeadRow.holds Try.pinned (OpenSpec.ofChange fnLeadSpec)

/-- ITS FALSE NEIGHBOUR: 'it returns false'. Refute it at one input. -/
def fnLeadWrong : ChangeSpec := { name := "fnLead", fn := fun _ => fun
  | [d] => { results := [.lit (.bool false)], args := [d] }
  | _ => none }
def FnLeadWrongFalsely : Prop := fnLeadRow.holds Try.pinned (OpenSpec.ofChange fnLeadWrong)

/-- 'laws.FnLeadTwice': WHATEVER THE INPUT: true; the input reads as it did. -/
def fnLeadTwiceSpec : ChangeSpec := { name := "fnLeadTwice", fn := fun _ => fun
  | [d] => { results := [.lit (.bool true)], args := [d] }
  | _ => none }
def fnLeadTwiceRow : OpenClaim := { program := "ytajdcjimpnheoaa", sum := "3640b796fa00f1feebe44c9db6cf415d3f76895066d38c737590f61967e82798", func := "loop.example/disclosurecontrol/laws.FnLeadTwice", spec := "fnLeadTwice", unfollowed := true, recurses := true, apart := false }
def FnLeadTwiceSaid : Prop := fnLeadTwiceRow.holds Try.pinned (OpenSpec.ofChange fnLeadTwiceSpec)

/-- ITS FALSE NEIGHBOUR: 'it returns false'. Refute it at one input. -/
def fnLeadTwiceWrong : ChangeSpec := { name := "fnLeadTwice", fn := fun _ => fun
  | [d] => { results := [.lit (.bool false)], args := [d] }
  | _ => none }
def FnLeadTwiceWrongFalsely : Prop := fnLeadTwiceRow.holds Try.pinned (OpenSpec.ofChange fnLeadTwiceWrong)

/-- 'laws.FnGuessTwo': WHATEVER THE INPUT: true; the input reads as it did. -/
def fnGuessTwoSpec : ChangeSpec := { name := "fnGuessTwo", fn := fun _ => fun
  | [d1, d2] => { results := [.lit (.bool true)], args := [d1, d2] }
  | _ => none }
def fnGuessTwoRow : OpenClaim := { program := "ytajdcjimpnheoaa", sum := "3640b796fa00f1feebe44c9db6cf415d3f76895066d38c737590f61967e82798", func := "loop.example/disclosurecontrol/laws.FnGuessTwo", spec := "fnGuessTwo", unfollowed := true, recurses := true, apart := false }
def FnGuessTwoSaid : Prop := fnGuessTwoRow.holds Try.pinned (OpenSpec.ofChange fnGuessTwoSpec)

/-- ITS FALSE NEIGHBOUR: 'it returns false'. Refute it at one input. -/
def fnGuessTwoWrong : ChangeSpec := { name := "fnGuessTwo", fn := fun _ => fun
  | [d1, d2] => { results := [.lit (.bool false)], args := [d1, d2] }
  | _ => none }
def FnGuessTwoWrongFalsely : Prop := fnGuessTwoRow.holds Try.pinned (OpenSpec.ofChange fnGuessTwoWrong)

/- THE SECOND FORM. 'bulk': how many values and letters a reading holds, each counted each time it is reached (what is shared counts as often as it is met; a slice's spare places count too). A statement '..UptoSaid' is the law's where the arguments, and the package variables that the reading takes, are together of bulk at most 1048576: NARROWER than '..Said'. Prove '..Said' where nothing that the law and all that it calls make is longer than what came in: it says more and counts as full. Else prove '..UptoSaid'. A law counts once. -/
mutual
def uptoBulk {H : Type} : DataW H → Nat
  | .lit (.string bytes) => bytes.length + 1
  | .lit _ => 1
  | .nil => 1
  | .ptr d => uptoBulk d + 1
  | .slice elems spare => uptoBulkAll elems + uptoBulkAll spare + 1
  | .agg parts => uptoBulkAll parts + 1
  | .iface _ d => uptoBulk d + 1
  | .map entries => uptoBulkEntries entries + 1
  | .held _ => 1
def uptoBulkAll {H : Type} : List (DataW H) → Nat
  | [] => 0
  | d :: r => uptoBulk d + uptoBulkAll r
def uptoBulkEntries {H : Type} : List (Lit × DataW H) → Nat
  | [] => 0
  | x :: r => uptoBulkEntry x + uptoBulkEntries r
def uptoBulkEntry {H : Type} : Lit × DataW H → Nat
  | (.string bytes, d) => bytes.length + uptoBulk d + 1
  | (_, d) => uptoBulk d + 1
 end
def uptoSmall : (H : Type) → List (DataW H) → Bool := fun _ ds => decide (uptoBulkAll ds ≤ 1048576)
def OpenSpec.upto (s : _root_.Go.ChangeSpec) : _root_.Go.OpenSpec := { _root_.Go.OpenSpec.ofChange s with cond := some uptoSmall }

/-- 'laws.FnTop', WHERE WHAT IT READS IS OF BULK AT MOST 1048576: true; the input reads as it did. -/
def fnTopUptoRow : OpenClaim := { program := "ytajdcjimpnheoaa", sum := "3640b796fa00f1feebe44c9db6cf415d3f76895066d38c737590f61967e82798", func := "loop.example/disclosurecontrol/laws.FnTop", spec := "fnTop", unfollowed := true, recurses := true, apart := false, narrowed := true }
def FnTopUptoSaid : Prop := fnTopUptoRow.holds Try.pinned (OpenSpec.upto fnTopSpec)

/-- 'laws.FnExactPartsTop', WHERE WHAT IT READS IS OF BULK AT MOST 1048576: true; the input reads as it did. -/
def fnExactPartsTopUptoRow : OpenClaim := { program := "ytajdcjimpnheoaa", sum := "3640b796fa00f1feebe44c9db6cf415d3f76895066d38c737590f61967e82798", func := "loop.example/disclosurecontrol/laws.FnExactPartsTop", spec := "fnExactPartsTop", unfollowed := true, recurses := true, apart := false, narrowed := true }
def FnExactPartsTopUptoSaid : Prop := fnExactPartsTopUptoRow.holds Try.pinned (OpenSpec.upto fnExactPartsTopSpec)

/-- 'laws.FnExactPartsLead', WHERE WHAT IT READS IS OF BULK AT MOST 1048576: true; the input reads as it did. -/
def fnExactPartsLeadUptoRow : OpenClaim := { program := "ytajdcjimpnheoaa", sum := "3640b796fa00f1feebe44c9db6cf415d3f76895066d38c737590f61967e82798", func := "loop.example/disclosurecontrol/laws.FnExactPartsLead", spec := "fnExactPartsLead", unfollowed := true, recurses := true, apart := false, narrowed := true }
def FnExactPartsLeadUptoSaid : Prop := fnExactPartsLeadUptoRow.holds Try.pinned (OpenSpec.upto fnExactPartsLeadSpec)

/-- 'laws.FnExactPartsGuess', WHERE WHAT IT READS IS OF BULK AT MOST 1048576: true; the input reads as it did. -/
def fnExactPartsGuessUptoRow : OpenClaim := { program := "ytajdcjimpnheoaa", sum := "3640b796fa00f1feebe44c9db6cf415d3f76895066d38c737590f61967e82798", func := "loop.example/disclosurecontrol/laws.FnExactPartsGuess", spec := "fnExactPartsGuess", unfollowed := true, recurses := true, apart := false, narrowed := true }
def FnExactPartsGuessUptoSaid : Prop := fnExactPartsGuessUptoRow.holds Try.pinned (OpenSpec.upto fnExactPartsGuessSpec)

/-- 'laws.FnExactPartsSpare', WHERE WHAT IT READS IS OF BULK AT MOST 1048576: true; the input reads as it did. -/
def fnExactPartsSpareUptoRow : OpenClaim := { program := "ytajdcjimpnheoaa", sum := "3640b796fa00f1feebe44c9db6cf415d3f76895066d38c737590f61967e82798", func := "loop.example/disclosurecontrol/laws.FnExactPartsSpare", spec := "fnExactPartsSpare", unfollowed := true, recurses := true, apart := false, narrowed := true }
def FnExactPartsSpareUptoSaid : Prop := fnExactPartsSpareUptoRow.holds Try.pinned (OpenSpec.upto fnExactPartsSpareSpec)

/-- 'laws.FnFewNone', WHERE WHAT IT READS IS OF BULK AT MOST 1048576: true; the input reads as it did. -/
def fnFewNoneUptoRow : OpenClaim := { program := "ytajdcjimpnheoaa", sum := "3640b796fa00f1feebe44c9db6cf415d3f76895066d38c737590f61967e82798", func := "loop.example/disclosurecontrol/laws.FnFewNone", spec := "fnFewNone", unfollowed := true, recurses := true, apart := false, narrowed := true }
def FnFewNoneUptoSaid : Prop := fnFewNoneUptoRow.holds Try.pinned (OpenSpec.upto fnFewNoneSpec)

/-- 'laws.FnTopAdd', WHERE WHAT IT READS IS OF BULK AT MOST 1048576: true; the input reads as it did. -/
def fnTopAddUptoRow : OpenClaim := { program := "ytajdcjimpnheoaa", sum := "3640b796fa00f1feebe44c9db6cf415d3f76895066d38c737590f61967e82798", func := "loop.example/disclosurecontrol/laws.FnTopAdd", spec := "fnTopAdd", unfollowed := true, recurses := true, apart := false, narrowed := true }
def FnTopAddUptoSaid : Prop := fnTopAddUptoRow.holds Try.pinned (OpenSpec.upto fnTopAddSpec)

/-- 'laws.FnTopSorted', WHERE WHAT IT READS IS OF BULK AT MOST 1048576: true; the input reads as it did. -/
def fnTopSortedUptoRow : OpenClaim := { program := "ytajdcjimpnheoaa", sum := "3640b796fa00f1feebe44c9db6cf415d3f76895066d38c737590f61967e82798", func := "loop.example/disclosurecontrol/laws.FnTopSorted", spec := "fnTopSorted", unfollowed := true, recurses := true, apart := false, narrowed := true }
def FnTopSortedUptoSaid : Prop := fnTopSortedUptoRow.holds Try.pinned (OpenSpec.upto fnTopSortedSpec)

/-- 'laws.FnTopOrder', WHERE WHAT IT READS IS OF BULK AT MOST 1048576: true; the input reads as it did. -/
def fnTopOrderUptoRow : OpenClaim := { program := "ytajdcjimpnheoaa", sum := "3640b796fa00f1feebe44c9db6cf415d3f76895066d38c737590f61967e82798", func := "loop.example/disclosurecontrol/laws.FnTopOrder", spec := "fnTopOrder", unfollowed := true, recurses := true, apart := false, narrowed := true }
def FnTopOrderUptoSaid : Prop := fnTopOrderUptoRow.holds Try.pinned (OpenSpec.upto fnTopOrderSpec)

/-- 'laws.FnLead', WHERE WHAT IT READS IS OF BULK AT MOST 1048576: true; the input reads as it did. -/
def fnLeadUptoRow : OpenClaim := { program := "ytajdcjimpnheoaa", sum := "3640b796fa00f1feebe44c9db6cf415d3f76895066d38c737590f61967e82798", func := "loop.example/disclosurecontrol/laws.FnLead", spec := "fnLead", unfollowed := true, recurses := true, apart := false, narrowed := true }
def FnLeadUptoSaid : Prop := fnLeadUptoRow.holds Try.pinned (OpenSpec.upto fnLeadSpec)

/-- 'laws.FnLeadTwice', WHERE WHAT IT READS IS OF BULK AT MOST 1048576: true; the input reads as it did. -/
def fnLeadTwiceUptoRow : OpenClaim := { program := "ytajdcjimpnheoaa", sum := "3640b796fa00f1feebe44c9db6cf415d3f76895066d38c737590f61967e82798", func := "loop.example/disclosurecontrol/laws.FnLeadTwice", spec := "fnLeadTwice", unfollowed := true, recurses := true, apart := false, narrowed := true }
def FnLeadTwiceUptoSaid : Prop := fnLeadTwiceUptoRow.holds Try.pinned (OpenSpec.upto fnLeadTwiceSpec)

/-- 'laws.FnGuessTwo', WHERE WHAT IT READS IS OF BULK AT MOST 1048576: true; the input reads as it did. -/
def fnGuessTwoUptoRow : OpenClaim := { program := "ytajdcjimpnheoaa", sum := "3640b796fa00f1feebe44c9db6cf415d3f76895066d38c737590f61967e82798", func := "loop.example/disclosurecontrol/laws.FnGuessTwo", spec := "fnGuessTwo", unfollowed := true, recurses := true, apart := false, narrowed := true }
def FnGuessTwoUptoSaid : Prop := fnGuessTwoUptoRow.holds Try.pinned (OpenSpec.upto fnGuessTwoSpec)

end Rows
end Go.Proofs.Ytajdcjimpnheoaa
