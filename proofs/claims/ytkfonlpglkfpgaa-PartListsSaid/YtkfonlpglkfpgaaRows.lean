/-
  No cell of these rows narrows 'for every input' (looked for: loops, veiled, ifaces, maps, wideKeys, modest, calm, conditions, laid).
  DERIVED. THE GIVEN ROWS OF THIS SEAT. 2 by the template 'for every input the law returns true; each argument reads behind the call as it read before'; 0 by the template 'total and deterministic' (their statements: YtkfonlpglkfpgaaTotals.lean).
  GIVEN WITH THE SEED: the statements are not yours to turn. If you find one false, say at which input.
  Laid BY PROGRAM, IN A SANDBOX (cutbox-rows.mjs): the forced cells as the released guide's own fill.sh prints them over the translation b7d1243261118997… (all of the seat's roots in one cut). By AI agents, Wed Nov 11 2026. No macro, syntax, notation, axiom, sorry.
-/
import Derived.Test.YtkfonlpglkfpgaaChecked
import GoSem.Claim
import GoSem.ClaimJoined
import GoSem.ClaimMapViews
import Derived.JoinedTies
import Derived.KernelRfl
namespace Go.Proofs.Ytkfonlpglkfpgaa
/- THE CELL 'sum', in the pinned program and in every row, IS THE sha256 OF THE DUMP (.gsa) THAT YtkfonlpglkfpgaaProg.lean LOADS. Nothing in Lean hashes anything: it is a label: what it is worth is what the hold of that sum in a sandbox is worth. -/
noncomputable def Try.pinned : Pinned := { name := "ytkfonlpglkfpgaa", sum := "b7d12432611189977d386aeff7cccca1639a2121b28d466ab159d913bf5b7875", checked := Try.checked }
namespace Rows
def none {H : Type} : Left H := { results := [], args := [] }

/-- 'parleylaw26.PartQueues': WHATEVER THE INPUT: true; the input reads as it did. -/
def partQueuesSpec : ChangeSpec := { name := "partQueues", fn := fun _ => fun
  | [d1, d2, d3] => { results := [.lit (.bool true)], args := [d1, d2, d3] }
  | _ => none }
def partQueuesRow : OpenClaim := { program := "ytkfonlpglkfpgaa", sum := "b7d12432611189977d386aeff7cccca1639a2121b28d466ab159d913bf5b7875", func := "parley/parleylaw26.PartQueues", spec := "partQueues", unfollowed := true, recurses := true, apart := false }
def PartQueuesSaid : Prop := partQueuesRow.holds Try.pinned (OpenSpec.ofChange partQueuesSpec)

/-- ITS FALSE NEIGHBOUR: 'it returns false'. Refute it at one input. -/
def partQueuesWrong : ChangeSpec := { name := "partQueues", fn := fun _ => fun
  | [d1, d2, d3] => { results := [.lit (.bool false)], args := [d1, d2, d3] }
  | _ => none }
def PartQueuesWrongFalsely : Prop := partQueuesRow.holds Try.pinned (OpenSpec.ofChange partQueuesWrong)

/-- 'parleylaw26.PartLists': WHATEVER THE INPUT: true; the input reads as it did. -/
def partListsSpec : ChangeSpec := { name := "partLists", fn := fun _ => fun
  | [d] => { results := [.lit (.bool true)], args := [d] }
  | _ => none }
def partListsRow : OpenClaim := { program := "ytkfonlpglkfpgaa", sum := "b7d12432611189977d386aeff7cccca1639a2121b28d466ab159d913bf5b7875", func := "parley/parleylaw26.PartLists", spec := "partLists", unfollowed := true, recurses := true, apart := false }
def PartListsSaid : Prop := partListsRow.holds Try.pinned (OpenSpec.ofChange partListsSpec)

/-- ITS FALSE NEIGHBOUR: 'it returns false'. Refute it at one input. -/
def partListsWrong : ChangeSpec := { name := "partLists", fn := fun _ => fun
  | [d] => { results := [.lit (.bool false)], args := [d] }
  | _ => none }
def PartListsWrongFalsely : Prop := partListsRow.holds Try.pinned (OpenSpec.ofChange partListsWrong)

/- THE SECOND FORM. 'bulk': how many values and letters a reading holds, each counted each time it is reached (what is shared counts as often as it is met; a slice's spare places count too). A statement '..UptoSaid' is the law's where the arguments, and the package variables that the reading takes, are together of bulk at most 1048576: NARROWER than '..Said'. Prove '..Said' where nothing that the law and all that it calls make is longer than what came in: it says more and counts as full. Else prove '..UptoSaid'. A law counts once. -/
mutual
def uptoBulk {H : Type} : DataW H → Nat
  | .lit (.string bytes) => bytes.length + 1
  | .lit _ => 1
  | .nil => 1
  | .ptr d => uptoBulk d + 1
  | .slice elems spare => uptoBulkAll elems + uptoBulkAll spare + 1
  | .agg parts => uptoBulkAll parts + 1
  | .iface _ d => uptoBulk d + 1
  | .map entries => uptoBulkEntries entries + 1
  | .held _ => 1
def uptoBulkAll {H : Type} : List (DataW H) → Nat
  | [] => 0
  | d :: r => uptoBulk d + uptoBulkAll r
def uptoBulkEntries {H : Type} : List (Lit × DataW H) → Nat
  | [] => 0
  | x :: r => uptoBulkEntry x + uptoBulkEntries r
def uptoBulkEntry {H : Type} : Lit × DataW H → Nat
  | (.string bytes, d) => bytes.length + uptoBulk d + 1
  | (_, d) => uptoBulk d + 1
 end
def uptoSmall : (H : Type) → List (DataW H) → Bool := fun _ ds => decide (uptoBulkAll ds ≤ 1048576)
def OpenSpec.upto (s : _root_.Go.ChangeSpec) : _root_.Go.OpenSpec := { _root_.Go.OpenSpec.ofChange s with cond := some uptoSmall }

/-- 'parleylaw26.PartQueues', WHERE WHAT IT READS IS OF BULK AT MOST 1048576: true; the input reads as it did. -/
def partQueuesUptoRow : OpenClaim := { program := "ytkfonlpglkfpgaa", sum := "b7d12432611189977d386aeff7cccca1639a2121b28d466ab159d913bf5b7875", func := "parley/parleylaw26.PartQueues", spec := "partQueues", unfollowed := true, recurses := true, apart := false, narrowed := true }
def PartQueuesUptoSaid : Prop := partQueuesUptoRow.holds Try.pinned (OpenSpec.upto partQueuesSpec)

/-- 'parleylaw26.PartLists', WHERE WHAT IT READS IS OF BULK AT MOST 1048576: true; the input reads as it did. -/
def partListsUptoRow : OpenClaim := { program := "ytkfonlpglkfpgaa", sum := "b7d12432611189977d386aeff7cccca1639a2121b28d466ab159d913bf5b7875", func := "parley/parleylaw26.PartLists", spec := "partLists", unfollowed := true, recurses := true, apart := false, narrowed := true }
def PartListsUptoSaid : Prop := partListsUptoRow.holds Try.pinned (OpenSpec.upto partListsSpec)

end Rows
end Go.Proofs.Ytkfonlpglkfpgaa
