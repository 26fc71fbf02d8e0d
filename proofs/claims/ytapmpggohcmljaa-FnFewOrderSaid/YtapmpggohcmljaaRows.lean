/-
  No cell of these rows narrows 'for every input' (looked for: loops, veiled, ifaces, maps, wideKeys, modest, calm, conditions, laid).
  DERIVED. THE GIVEN ROWS OF THIS SEAT. 5 by the template 'for every input the law returns true; each argument reads behind the call as it read before'; 0 by the template 'total and deterministic' (their statements: YtapmpggohcmljaaTotals.lean).
  GIVEN WITH THE SEED: the statements are not yours to turn. If you find one false, say at which input.
  Laid BY PROGRAM, IN A SANDBOX (cutbox-rows.mjs): the forced cells as the released guide's own fill.sh prints them over the translation 6cfa0f210933eaa9… (all of the seat's roots in one cut). By AI agents, Wed Nov 11 2026. No macro, syntax, notation, axiom, sorry.
-/
import Derived.Test.YtapmpggohcmljaaChecked
import GoSem.Claim
import GoSem.ClaimJoined
import GoSem.ClaimMapViews
import Derived.JoinedTies
import Derived.KernelRfl
namespace Go.Proofs.Ytapmpggohcmljaa
/- THE CELL 'sum', in the pinned program and in every row, IS THE sha256 OF THE DUMP (.gsa) THAT YtapmpggohcmljaaProg.lean LOADS. Nothing in Lean hashes anything: it is a label: what it is worth is what the hold of that sum in a sandbox is worth. -/
noncomputable def Try.pinned : Pinned := { name := "ytapmpggohcmljaa", sum := "6cfa0f210933eaa951c05495c2707779730ecdaba0c4ee2f471db32225f20774", checked := Try.checked }
namespace Rows
def none {H : Type} : Left H := { results := [], args := [] }

/-- 'laws.FnExactPartsValid': WHATEVER THE INPUT: true; the input reads as it did. -/
def fnExactPartsValidSpec : ChangeSpec := { name := "fnExactPartsValid", fn := fun _ => fun
  | [d] => { results := [.lit (.bool true)], args := [d] }
  | _ => none }
def fnExactPartsValidRow : OpenClaim := { program := "ytapmpggohcmljaa", sum := "6cfa0f210933eaa951c05495c2707779730ecdaba0c4ee2f471db32225f20774", func := "loop.example/disclosurecontrol/laws.FnExactPartsValid", spec := "fnExactPartsValid", apart := false }
def FnExactPartsValidSaid : Prop := fnExactPartsValidRow.holds Try.pinned (OpenSpec.ofChange fnExactPartsValidSpec)

/-- ITS FALSE NEIGHBOUR: 'it returns false'. Refute it at one input. -/
def fnExactPartsValidWrong : ChangeSpec := { name := "fnExactPartsValid", fn := fun _ => fun
  | [d] => { results := [.lit (.bool false)], args := [d] }
  | _ => none }
def FnExactPartsValidWrongFalsely : Prop := fnExactPartsValidRow.holds Try.pinned (OpenSpec.ofChange fnExactPartsValidWrong)

/-- 'laws.FnParts': WHATEVER THE INPUT: true; the input reads as it did. -/
def fnPartsSpec : ChangeSpec := { name := "fnParts", fn := fun _ => fun
  | [d1, d2] => { results := [.lit (.bool true)], args := [d1, d2] }
  | _ => none }
def fnPartsRow : OpenClaim := { program := "ytapmpggohcmljaa", sum := "6cfa0f210933eaa951c05495c2707779730ecdaba0c4ee2f471db32225f20774", func := "loop.example/disclosurecontrol/laws.FnParts", spec := "fnParts", apart := false }
def FnPartsSaid : Prop := fnPartsRow.holds Try.pinned (OpenSpec.ofChange fnPartsSpec)

/-- ITS FALSE NEIGHBOUR: 'it returns false'. Refute it at one input. -/
def fnPartsWrong : ChangeSpec := { name := "fnParts", fn := fun _ => fun
  | [d1, d2] => { results := [.lit (.bool false)], args := [d1, d2] }
  | _ => none }
def FnPartsWrongFalsely : Prop := fnPartsRow.holds Try.pinned (OpenSpec.ofChange fnPartsWrong)

/-- 'laws.FnExactPartsFew': WHATEVER THE INPUT: true; the input reads as it did. -/
def fnExactPartsFewSpec : ChangeSpec := { name := "fnExactPartsFew", fn := fun _ => fun
  | [d1, d2] => { results := [.lit (.bool true)], args := [d1, d2] }
  | _ => none }
def fnExactPartsFewRow : OpenClaim := { program := "ytapmpggohcmljaa", sum := "6cfa0f210933eaa951c05495c2707779730ecdaba0c4ee2f471db32225f20774", func := "loop.example/disclosurecontrol/laws.FnExactPartsFew", spec := "fnExactPartsFew", apart := false }
def FnExactPartsFewSaid : Prop := fnExactPartsFewRow.holds Try.pinned (OpenSpec.ofChange fnExactPartsFewSpec)

/-- ITS FALSE NEIGHBOUR: 'it returns false'. Refute it at one input. -/
def fnExactPartsFewWrong : ChangeSpec := { name := "fnExactPartsFew", fn := fun _ => fun
  | [d1, d2] => { results := [.lit (.bool false)], args := [d1, d2] }
  | _ => none }
def FnExactPartsFewWrongFalsely : Prop := fnExactPartsFewRow.holds Try.pinned (OpenSpec.ofChange fnExactPartsFewWrong)

/-- 'laws.FnFew': WHATEVER THE INPUT: true; the input reads as it did. -/
def fnFewSpec : ChangeSpec := { name := "fnFew", fn := fun _ => fun
  | [d] => { results := [.lit (.bool true)], args := [d] }
  | _ => none }
def fnFewRow : OpenClaim := { program := "ytapmpggohcmljaa", sum := "6cfa0f210933eaa951c05495c2707779730ecdaba0c4ee2f471db32225f20774", func := "loop.example/disclosurecontrol/laws.FnFew", spec := "fnFew", apart := false }
def FnFewSaid : Prop := fnFewRow.holds Try.pinned (OpenSpec.ofChange fnFewSpec)

/-- ITS FALSE NEIGHBOUR: 'it returns false'. Refute it at one input. -/
def fnFewWrong : ChangeSpec := { name := "fnFew", fn := fun _ => fun
  | [d] => { results := [.lit (.bool false)], args := [d] }
  | _ => none }
def FnFewWrongFalsely : Prop := fnFewRow.holds Try.pinned (OpenSpec.ofChange fnFewWrong)

/-- 'laws.FnFewOrder': WHATEVER THE INPUT: true; the input reads as it did. -/
def fnFewOrderSpec : ChangeSpec := { name := "fnFewOrder", fn := fun _ => fun
  | [d1, d2] => { results := [.lit (.bool true)], args := [d1, d2] }
  | _ => none }
def fnFewOrderRow : OpenClaim := { program := "ytapmpggohcmljaa", sum := "6cfa0f210933eaa951c05495c2707779730ecdaba0c4ee2f471db32225f20774", func := "loop.example/disclosurecontrol/laws.FnFewOrder", spec := "fnFewOrder", apart := false }
def FnFewOrderSaid : Prop := fnFewOrderRow.holds Try.pinned (OpenSpec.ofChange fnFewOrderSpec)

/-- ITS FALSE NEIGHBOUR: 'it returns false'. Refute it at one input. -/
def fnFewOrderWrong : ChangeSpec := { name := "fnFewOrder", fn := fun _ => fun
  | [d1, d2] => { results := [.lit (.bool false)], args := [d1, d2] }
  | _ => none }
def FnFewOrderWrongFalsely : Prop := fnFewOrderRow.holds Try.pinned (OpenSpec.ofChange fnFewOrderWrong)

/- THE SECOND FORM. 'bulk': how many values and letters a reading holds, each counted each time it is reached (what is shared counts as often as it is met; a slice's spare places count too). A statement '..UptoSaid' is the law's where the arguments, and the package variables that the reading takes, are together of bulk at most 1048576: NARROWER than '..Said'. Prove '..Said' where nothing that the law and all that it calls make is longer than what came in: it says more and counts as full. Else prove '..UptoSaid'. A law counts once. -/
mutual
def uptoBulk {H : Type} : DataW H → Nat
  | .lit (.string bytes) => bytes.length + 1
  | .lit _ => 1
  | .nil => 1
  | .ptr d => uptoBulk d + 1
  | .slice elems spare => uptoBulkAll elems + uptoBulkAll spare + 1
  | .agg parts => uptoBulkAll parts + 1
  | .iface _ d => uptoBulk d + 1
  | .map entries => uptoBulkEntries entries + 1
  | .held _ => 1
def uptoBulkAll {H : Type} : List (DataW H) → Nat
  | [] => 0
  | d :: r => uptoBulk d + uptoBulkAll r
def uptoBulkEntries {H : Type} : List (Lit × DataW H) → Nat
  | [] => 0
  | x :: r => uptoBulkEntry x + uptoBulkEntries r
def uptoBulkEntry {H : Type} : Lit × DataW H → Nat
  | (.string bytes, d) => bytes.length + uptoBulk d + 1
  | (_, d) => uptoBulk d + 1
 end
def uptoSmall : (H : Type) → List (DataW H) → Bool := fun _ ds => decide (uptoBulkAll ds ≤ 1048576)
def OpenSpec.upto (s : _root_.Go.ChangeSpec) : _root_.Go.OpenSpec := { _root_.Go.OpenSpec.ofChange s with cond := some uptoSmall }

/-- 'laws.FnExactPartsValid', WHERE WHAT IT READS IS OF BULK AT MOST 1048576: true; the input reads as it did. -/
def fnExactPartsValidUptoRow : OpenClaim := { program := "ytapmpggohcmljaa", sum := "6cfa0f210933eaa951c05495c2707779730ecdaba0c4ee2f471db32225f20774", func := "loop.example/disclosurecontrol/laws.FnExactPartsValid", spec := "fnExactPartsValid", apart := false, narrowed := true }
def FnExactPartsValidUptoSaid : Prop := fnExactPartsValidUptoRow.holds Try.pinned (OpenSpec.upto fnExactPartsValidSpec)

/-- 'laws.FnParts', WHERE WHAT IT READS IS OF BULK AT MOST 1048576: true; the input reads as it did. -/
def fnPartsUptoRow : OpenClaim := { program := "ytapmpggohcmljaa", sum := "6cfa0f210933eaa951c05495c2707779730ecdaba0c4ee2f471db32225f20774", func := "loop.example/disclosurecontrol/laws.FnParts", spec := "fnParts", apart := false, narrowed := true }
def FnPartsUptoSaid : Prop := fnPartsUptoRow.holds Try.pinned (OpenSpec.upto fnPartsSpec)

/-- 'laws.FnExactPartsFew', WHERE WHAT IT READS IS OF BULK AT MOST 1048576: true; the input reads as it did. -/
def fnExactPartsFewUptoRow : OpenClaim := { program := "ytapmpggohcmljaa", sum := "6cfa0f210933eaa951c05495c2707779730ecdaba0c4ee2f471db32225f20774", func := "loop.example/disclosurecontrol/laws.FnExactPartsFew", spec := "fnExactPartsFew", apart := false, narrowed := true }
def FnExactPartsFewUptoSaid : Prop := fnExactPartsFewUptoRow.holds Try.pinned (OpenSpec.upto fnExactPartsFewSpec)

/-- 'laws.FnFew', WHERE WHAT IT READS IS OF BULK AT MOST 1048576: true; the input reads as it did. -/
def fnFewUptoRow : OpenClaim := { program := "ytapmpggohcmljaa", sum := "6cfa0f210933eaa951c05495c2707779730ecdaba0c4ee2f471db32225f20774", func := "loop.example/disclosurecontrol/laws.FnFew", spec := "fnFew", apart := false, narrowed := true }
def FnFewUptoSaid : Prop := fnFewUptoRow.holds Try.pinned (OpenSpec.upto fnFewSpec)

/-- 'laws.FnFewOrder', WHERE WHAT IT READS IS OF BULK AT MOST 1048576: true; the input reads as it did. -/
def fnFewOrderUptoRow : OpenClaim := { program := "ytapmpggohcmljaa", sum := "6cfa0f210933eaa951c05495c2707779730ecdaba0c4ee2f471db32225f20774", func := "loop.example/disclosurecontrol/laws.FnFewOrder", spec := "fnFewOrder", apart := false, narrowed := true }
def FnFewOrderUptoSaid : Prop := fnFewOrderUptoRow.holds Try.pinned (OpenSpec.upto fnFewOrderSpec)

end Rows
end Go.Proofs.Ytapmpggohcmljaa
