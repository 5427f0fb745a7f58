/-
  No cell of these rows narrows 'for every input' (looked for: loops, veiled, ifaces, maps, wideKeys, modest, calm, conditions, laid).
  DERIVED. THE GIVEN ROWS OF THIS SEAT. 17 by the template 'for every input the law returns true; each argument reads behind the call as it read before'; 0 by the template 'total and deterministic' (their statements: YtcnlgoghnlcndaaTotals.lean).
  GIVEN WITH THE SEED: the statements are not yours to turn. If you find one false, say at which input.
  Laid BY PROGRAM, IN A SANDBOX (cutbox-rows.mjs): the forced cells as the released guide's own fill.sh prints them over the translation 2d582bbd6a7c6e7c… (all of the seat's roots in one cut). By AI agents, Wed Nov 11 2026. No macro, syntax, notation, axiom, sorry.
-/
import Derived.Test.YtcnlgoghnlcndaaChecked
import GoSem.Claim
import GoSem.ClaimJoined
import GoSem.ClaimMapViews
import Derived.JoinedTies
import Derived.KernelRfl
namespace Go.Proofs.Ytcnlgoghnlcndaa
/- THE CELL 'sum', in the pinned program and in every row, IS THE sha256 OF THE DUMP (.gsa) THAT YtcnlgoghnlcndaaProg.lean LOADS. Nothing in Lean hashes anything: it is a label: what it is worth is what the hold of that sum in a sandbox is worth. -/
noncomputable def Try.pinned : Pinned := { name := "ytcnlgoghnlcndaa", sum := "2d582bbd6a7c6e7cfcb64c146b4889d07090da8e70898de2b3d3a1ec66aba300", checked := Try.checked }
namespace Rows
def none {H : Type} : Left H := { results := [], args := [] }

/-- 'laws.FnExactRingsFor': WHATEVER THE INPUT: true; the input reads as it did. -/
def fnExactRingsForSpec : ChangeSpec := { name := "fnExactRingsFor", fn := fun _ => fun
  | [d1, d2] => { results := [.lit (.bool true)], args := [d1, d2] }
  | _ => none }
def fnExactRingsForRow : OpenClaim := { program := "ytcnlgoghnlcndaa", sum := "2d582bbd6a7c6e7cfcb64c146b4889d07090da8e70898de2b3d3a1ec66aba300", func := "loop.example/shortspectra/laws.FnExactRingsFor", spec := "fnExactRingsFor", apart := false }
def FnExactRingsForSaid : Prop := fnExactRingsForRow.holds Try.pinned (OpenSpec.ofChange fnExactRingsForSpec)

/-- ITS FALSE NEIGHBOUR: 'it returns false'. Refute it at one input. -/
def fnExactRingsForWrong : ChangeSpec := { name := "fnExactRingsFor", fn := fun _ => fun
  | [d1, d2] => { results := [.lit (.bool false)], args := [d1, d2] }
  | _ => none }
def FnExactRingsForWrongFalsely : Prop := fnExactRingsForRow.holds Try.pinned (OpenSpec.ofChange fnExactRingsForWrong)

/-- 'laws.FnRingsFor': WHATEVER THE INPUT: true; the input reads as it did. -/
def fnRingsForSpec : ChangeSpec := { name := "fnRingsFor", fn := fun _ => fun
  | [d] => { results := [.lit (.bool true)], args := [d] }
  | _ => none }
def fnRingsForRow : OpenClaim := { program := "ytcnlgoghnlcndaa", sum := "2d582bbd6a7c6e7cfcb64c146b4889d07090da8e70898de2b3d3a1ec66aba300", func := "loop.example/shortspectra/laws.FnRingsFor", spec := "fnRingsFor", apart := false }
def FnRingsForSaid : Prop := fnRingsForRow.holds Try.pinned (OpenSpec.ofChange fnRingsForSpec)

/-- ITS FALSE NEIGHBOUR: 'it returns false'. Refute it at one input. -/
def fnRingsForWrong : ChangeSpec := { name := "fnRingsFor", fn := fun _ => fun
  | [d] => { results := [.lit (.bool false)], args := [d] }
  | _ => none }
def FnRingsForWrongFalsely : Prop := fnRingsForRow.holds Try.pinned (OpenSpec.ofChange fnRingsForWrong)

/-- 'laws.FnExactWindowOf': WHATEVER THE INPUT: true; the input reads as it did. -/
def fnExactWindowOfSpec : ChangeSpec := { name := "fnExactWindowOf", fn := fun _ => fun
  | [d1, d2] => { results := [.lit (.bool true)], args := [d1, d2] }
  | _ => none }
def fnExactWindowOfRow : OpenClaim := { program := "ytcnlgoghnlcndaa", sum := "2d582bbd6a7c6e7cfcb64c146b4889d07090da8e70898de2b3d3a1ec66aba300", func := "loop.example/shortspectra/laws.FnExactWindowOf", spec := "fnExactWindowOf", apart := false }
def FnExactWindowOfSaid : Prop := fnExactWindowOfRow.holds Try.pinned (OpenSpec.ofChange fnExactWindowOfSpec)

/-- ITS FALSE NEIGHBOUR: 'it returns false'. Refute it at one input. -/
def fnExactWindowOfWrong : ChangeSpec := { name := "fnExactWindowOf", fn := fun _ => fun
  | [d1, d2] => { results := [.lit (.bool false)], args := [d1, d2] }
  | _ => none }
def FnExactWindowOfWrongFalsely : Prop := fnExactWindowOfRow.holds Try.pinned (OpenSpec.ofChange fnExactWindowOfWrong)

/-- 'laws.FnSubnormal': WHATEVER THE INPUT: true; the input reads as it did. -/
def fnSubnormalSpec : ChangeSpec := { name := "fnSubnormal", fn := fun _ => fun
  | [d] => { results := [.lit (.bool true)], args := [d] }
  | _ => none }
def fnSubnormalRow : OpenClaim := { program := "ytcnlgoghnlcndaa", sum := "2d582bbd6a7c6e7cfcb64c146b4889d07090da8e70898de2b3d3a1ec66aba300", func := "loop.example/shortspectra/laws.FnSubnormal", spec := "fnSubnormal", apart := false }
def FnSubnormalSaid : Prop := fnSubnormalRow.holds Try.pinned (OpenSpec.ofChange fnSubnormalSpec)

/-- ITS FALSE NEIGHBOUR: 'it returns false'. Refute it at one input. -/
def fnSubnormalWrong : ChangeSpec := { name := "fnSubnormal", fn := fun _ => fun
  | [d] => { results := [.lit (.bool false)], args := [d] }
  | _ => none }
def FnSubnormalWrongFalsely : Prop := fnSubnormalRow.holds Try.pinned (OpenSpec.ofChange fnSubnormalWrong)

/-- 'laws.FnTapsOk': WHATEVER THE INPUT: true; the input reads as it did. -/
def fnTapsOkSpec : ChangeSpec := { name := "fnTapsOk", fn := fun _ => fun
  | [d] => { results := [.lit (.bool true)], args := [d] }
  | _ => none }
def fnTapsOkRow : OpenClaim := { program := "ytcnlgoghnlcndaa", sum := "2d582bbd6a7c6e7cfcb64c146b4889d07090da8e70898de2b3d3a1ec66aba300", func := "loop.example/shortspectra/laws.FnTapsOk", spec := "fnTapsOk", apart := false }
def FnTapsOkSaid : Prop := fnTapsOkRow.holds Try.pinned (OpenSpec.ofChange fnTapsOkSpec)

/-- ITS FALSE NEIGHBOUR: 'it returns false'. Refute it at one input. -/
def fnTapsOkWrong : ChangeSpec := { name := "fnTapsOk", fn := fun _ => fun
  | [d] => { results := [.lit (.bool false)], args := [d] }
  | _ => none }
def FnTapsOkWrongFalsely : Prop := fnTapsOkRow.holds Try.pinned (OpenSpec.ofChange fnTapsOkWrong)

/-- 'laws.FnWindowOf': WHATEVER THE INPUT: true; the input reads as it did. -/
def fnWindowOfSpec : ChangeSpec := { name := "fnWindowOf", fn := fun _ => fun
  | [d] => { results := [.lit (.bool true)], args := [d] }
  | _ => none }
def fnWindowOfRow : OpenClaim := { program := "ytcnlgoghnlcndaa", sum := "2d582bbd6a7c6e7cfcb64c146b4889d07090da8e70898de2b3d3a1ec66aba300", func := "loop.example/shortspectra/laws.FnWindowOf", spec := "fnWindowOf", apart := false }
def FnWindowOfSaid : Prop := fnWindowOfRow.holds Try.pinned (OpenSpec.ofChange fnWindowOfSpec)

/-- ITS FALSE NEIGHBOUR: 'it returns false'. Refute it at one input. -/
def fnWindowOfWrong : ChangeSpec := { name := "fnWindowOf", fn := fun _ => fun
  | [d] => { results := [.lit (.bool false)], args := [d] }
  | _ => none }
def FnWindowOfWrongFalsely : Prop := fnWindowOfRow.holds Try.pinned (OpenSpec.ofChange fnWindowOfWrong)

/-- 'laws.FnFlushed': WHATEVER THE INPUT: true; the input reads as it did. -/
def fnFlushedSpec : ChangeSpec := { name := "fnFlushed", fn := fun _ => fun
  | [d] => { results := [.lit (.bool true)], args := [d] }
  | _ => none }
def fnFlushedRow : OpenClaim := { program := "ytcnlgoghnlcndaa", sum := "2d582bbd6a7c6e7cfcb64c146b4889d07090da8e70898de2b3d3a1ec66aba300", func := "loop.example/shortspectra/laws.FnFlushed", spec := "fnFlushed", apart := false }
def FnFlushedSaid : Prop := fnFlushedRow.holds Try.pinned (OpenSpec.ofChange fnFlushedSpec)

/-- ITS FALSE NEIGHBOUR: 'it returns false'. Refute it at one input. -/
def fnFlushedWrong : ChangeSpec := { name := "fnFlushed", fn := fun _ => fun
  | [d] => { results := [.lit (.bool false)], args := [d] }
  | _ => none }
def FnFlushedWrongFalsely : Prop := fnFlushedRow.holds Try.pinned (OpenSpec.ofChange fnFlushedWrong)

/-- 'laws.FnWithNoughts': WHATEVER THE INPUT: true; the input reads as it did. -/
def fnWithNoughtsSpec : ChangeSpec := { name := "fnWithNoughts", fn := fun _ => fun
  | [d] => { results := [.lit (.bool true)], args := [d] }
  | _ => none }
def fnWithNoughtsRow : OpenClaim := { program := "ytcnlgoghnlcndaa", sum := "2d582bbd6a7c6e7cfcb64c146b4889d07090da8e70898de2b3d3a1ec66aba300", func := "loop.example/shortspectra/laws.FnWithNoughts", spec := "fnWithNoughts", apart := false }
def FnWithNoughtsSaid : Prop := fnWithNoughtsRow.holds Try.pinned (OpenSpec.ofChange fnWithNoughtsSpec)

/-- ITS FALSE NEIGHBOUR: 'it returns false'. Refute it at one input. -/
def fnWithNoughtsWrong : ChangeSpec := { name := "fnWithNoughts", fn := fun _ => fun
  | [d] => { results := [.lit (.bool false)], args := [d] }
  | _ => none }
def FnWithNoughtsWrongFalsely : Prop := fnWithNoughtsRow.holds Try.pinned (OpenSpec.ofChange fnWithNoughtsWrong)

/-- 'laws.FnPieceOf': WHATEVER THE INPUT: true; the input reads as it did. -/
def fnPieceOfSpec : ChangeSpec := { name := "fnPieceOf", fn := fun _ => fun
  | [d] => { results := [.lit (.bool true)], args := [d] }
  | _ => none }
def fnPieceOfRow : OpenClaim := { program := "ytcnlgoghnlcndaa", sum := "2d582bbd6a7c6e7cfcb64c146b4889d07090da8e70898de2b3d3a1ec66aba300", func := "loop.example/shortspectra/laws.FnPieceOf", spec := "fnPieceOf", apart := false }
def FnPieceOfSaid : Prop := fnPieceOfRow.holds Try.pinned (OpenSpec.ofChange fnPieceOfSpec)

/-- ITS FALSE NEIGHBOUR: 'it returns false'. Refute it at one input. -/
def fnPieceOfWrong : ChangeSpec := { name := "fnPieceOf", fn := fun _ => fun
  | [d] => { results := [.lit (.bool false)], args := [d] }
  | _ => none }
def FnPieceOfWrongFalsely : Prop := fnPieceOfRow.holds Try.pinned (OpenSpec.ofChange fnPieceOfWrong)

/-- 'laws.FnGreatestOf': WHATEVER THE INPUT: true; the input reads as it did. -/
def fnGreatestOfSpec : ChangeSpec := { name := "fnGreatestOf", fn := fun _ => fun
  | [d] => { results := [.lit (.bool true)], args := [d] }
  | _ => none }
def fnGreatestOfRow : OpenClaim := { program := "ytcnlgoghnlcndaa", sum := "2d582bbd6a7c6e7cfcb64c146b4889d07090da8e70898de2b3d3a1ec66aba300", func := "loop.example/shortspectra/laws.FnGreatestOf", spec := "fnGreatestOf", apart := false }
def FnGreatestOfSaid : Prop := fnGreatestOfRow.holds Try.pinned (OpenSpec.ofChange fnGreatestOfSpec)

/-- ITS FALSE NEIGHBOUR: 'it returns false'. Refute it at one input. -/
def fnGreatestOfWrong : ChangeSpec := { name := "fnGreatestOf", fn := fun _ => fun
  | [d] => { results := [.lit (.bool false)], args := [d] }
  | _ => none }
def FnGreatestOfWrongFalsely : Prop := fnGreatestOfRow.holds Try.pinned (OpenSpec.ofChange fnGreatestOfWrong)

/-- 'laws.FnWindowed': WHATEVER THE INPUT: true; the input reads as it did. -/
def fnWindowedSpec : ChangeSpec := { name := "fnWindowed", fn := fun _ => fun
  | [d] => { results := [.lit (.bool true)], args := [d] }
  | _ => none }
def fnWindowedRow : OpenClaim := { program := "ytcnlgoghnlcndaa", sum := "2d582bbd6a7c6e7cfcb64c146b4889d07090da8e70898de2b3d3a1ec66aba300", func := "loop.example/shortspectra/laws.FnWindowed", spec := "fnWindowed", apart := false }
def FnWindowedSaid : Prop := fnWindowedRow.holds Try.pinned (OpenSpec.ofChange fnWindowedSpec)

/-- ITS FALSE NEIGHBOUR: 'it returns false'. Refute it at one input. -/
def fnWindowedWrong : ChangeSpec := { name := "fnWindowed", fn := fun _ => fun
  | [d] => { results := [.lit (.bool false)], args := [d] }
  | _ => none }
def FnWindowedWrongFalsely : Prop := fnWindowedRow.holds Try.pinned (OpenSpec.ofChange fnWindowedWrong)

/-- 'laws.FnPowersOf': WHATEVER THE INPUT: true; the input reads as it did. -/
def fnPowersOfSpec : ChangeSpec := { name := "fnPowersOf", fn := fun _ => fun
  | [d] => { results := [.lit (.bool true)], args := [d] }
  | _ => none }
def fnPowersOfRow : OpenClaim := { program := "ytcnlgoghnlcndaa", sum := "2d582bbd6a7c6e7cfcb64c146b4889d07090da8e70898de2b3d3a1ec66aba300", func := "loop.example/shortspectra/laws.FnPowersOf", spec := "fnPowersOf", apart := false }
def FnPowersOfSaid : Prop := fnPowersOfRow.holds Try.pinned (OpenSpec.ofChange fnPowersOfSpec)

/-- ITS FALSE NEIGHBOUR: 'it returns false'. Refute it at one input. -/
def fnPowersOfWrong : ChangeSpec := { name := "fnPowersOf", fn := fun _ => fun
  | [d] => { results := [.lit (.bool false)], args := [d] }
  | _ => none }
def FnPowersOfWrongFalsely : Prop := fnPowersOfRow.holds Try.pinned (OpenSpec.ofChange fnPowersOfWrong)

/-- 'laws.FnFromPairs': WHATEVER THE INPUT: true; the input reads as it did. -/
def fnFromPairsSpec : ChangeSpec := { name := "fnFromPairs", fn := fun _ => fun
  | [d] => { results := [.lit (.bool true)], args := [d] }
  | _ => none }
def fnFromPairsRow : OpenClaim := { program := "ytcnlgoghnlcndaa", sum := "2d582bbd6a7c6e7cfcb64c146b4889d07090da8e70898de2b3d3a1ec66aba300", func := "loop.example/shortspectra/laws.FnFromPairs", spec := "fnFromPairs", recurses := true, apart := false }
def FnFromPairsSaid : Prop := fnFromPairsRow.holds Try.pinned (OpenSpec.ofChange fnFromPairsSpec)

/-- ITS FALSE NEIGHBOUR: 'it returns false'. Refute it at one input. -/
def fnFromPairsWrong : ChangeSpec := { name := "fnFromPairs", fn := fun _ => fun
  | [d] => { results := [.lit (.bool false)], args := [d] }
  | _ => none }
def FnFromPairsWrongFalsely : Prop := fnFromPairsRow.holds Try.pinned (OpenSpec.ofChange fnFromPairsWrong)

/-- 'laws.FnShareOf': WHATEVER THE INPUT: true; the input reads as it did. -/
def fnShareOfSpec : ChangeSpec := { name := "fnShareOf", fn := fun _ => fun
  | [d] => { results := [.lit (.bool true)], args := [d] }
  | _ => none }
def fnShareOfRow : OpenClaim := { program := "ytcnlgoghnlcndaa", sum := "2d582bbd6a7c6e7cfcb64c146b4889d07090da8e70898de2b3d3a1ec66aba300", func := "loop.example/shortspectra/laws.FnShareOf", spec := "fnShareOf", inPlace := ["math.Float64bits", "math.Float64frombits"], apart := false }
def FnShareOfSaid : Prop := fnShareOfRow.holds Try.pinned (OpenSpec.ofChange fnShareOfSpec)

/-- ITS FALSE NEIGHBOUR: 'it returns false'. Refute it at one input. -/
def fnShareOfWrong : ChangeSpec := { name := "fnShareOf", fn := fun _ => fun
  | [d] => { results := [.lit (.bool false)], args := [d] }
  | _ => none }
def FnShareOfWrongFalsely : Prop := fnShareOfRow.holds Try.pinned (OpenSpec.ofChange fnShareOfWrong)

/-- 'laws.FnTogether': WHATEVER THE INPUT: true; the input reads as it did. -/
def fnTogetherSpec : ChangeSpec := { name := "fnTogether", fn := fun _ => fun
  | [d] => { results := [.lit (.bool true)], args := [d] }
  | _ => none }
def fnTogetherRow : OpenClaim := { program := "ytcnlgoghnlcndaa", sum := "2d582bbd6a7c6e7cfcb64c146b4889d07090da8e70898de2b3d3a1ec66aba300", func := "loop.example/shortspectra/laws.FnTogether", spec := "fnTogether", apart := false }
def FnTogetherSaid : Prop := fnTogetherRow.holds Try.pinned (OpenSpec.ofChange fnTogetherSpec)

/-- ITS FALSE NEIGHBOUR: 'it returns false'. Refute it at one input. -/
def fnTogetherWrong : ChangeSpec := { name := "fnTogether", fn := fun _ => fun
  | [d] => { results := [.lit (.bool false)], args := [d] }
  | _ => none }
def FnTogetherWrongFalsely : Prop := fnTogetherRow.holds Try.pinned (OpenSpec.ofChange fnTogetherWrong)

/-- 'laws.FnFastOf': WHATEVER THE INPUT: true; the input reads as it did. -/
def fnFastOfSpec : ChangeSpec := { name := "fnFastOf", fn := fun _ => fun
  | [d] => { results := [.lit (.bool true)], args := [d] }
  | _ => none }
def fnFastOfRow : OpenClaim := { program := "ytcnlgoghnlcndaa", sum := "2d582bbd6a7c6e7cfcb64c146b4889d07090da8e70898de2b3d3a1ec66aba300", func := "loop.example/shortspectra/laws.FnFastOf", spec := "fnFastOf", recurses := true, apart := false }
def FnFastOfSaid : Prop := fnFastOfRow.holds Try.pinned (OpenSpec.ofChange fnFastOfSpec)

/-- ITS FALSE NEIGHBOUR: 'it returns false'. Refute it at one input. -/
def fnFastOfWrong : ChangeSpec := { name := "fnFastOf", fn := fun _ => fun
  | [d] => { results := [.lit (.bool false)], args := [d] }
  | _ => none }
def FnFastOfWrongFalsely : Prop := fnFastOfRow.holds Try.pinned (OpenSpec.ofChange fnFastOfWrong)

/-- 'laws.FnPiecesOf': WHATEVER THE INPUT: true; the input reads as it did. -/
def fnPiecesOfSpec : ChangeSpec := { name := "fnPiecesOf", fn := fun _ => fun
  | [d] => { results := [.lit (.bool true)], args := [d] }
  | _ => none }
def fnPiecesOfRow : OpenClaim := { program := "ytcnlgoghnlcndaa", sum := "2d582bbd6a7c6e7cfcb64c146b4889d07090da8e70898de2b3d3a1ec66aba300", func := "loop.example/shortspectra/laws.FnPiecesOf", spec := "fnPiecesOf", apart := false }
def FnPiecesOfSaid : Prop := fnPiecesOfRow.holds Try.pinned (OpenSpec.ofChange fnPiecesOfSpec)

/-- ITS FALSE NEIGHBOUR: 'it returns false'. Refute it at one input. -/
def fnPiecesOfWrong : ChangeSpec := { name := "fnPiecesOf", fn := fun _ => fun
  | [d] => { results := [.lit (.bool false)], args := [d] }
  | _ => none }
def FnPiecesOfWrongFalsely : Prop := fnPiecesOfRow.holds Try.pinned (OpenSpec.ofChange fnPiecesOfWrong)

/- THE SECOND FORM. 'bulk': how many values and letters a reading holds, each counted each time it is reached (what is shared counts as often as it is met; a slice's spare places count too). A statement '..UptoSaid' is the law's where the arguments, and the package variables that the reading takes, are together of bulk at most 1048576: NARROWER than '..Said'. Prove '..Said' where nothing that the law and all that it calls make is longer than what came in: it says more and counts as full. Else prove '..UptoSaid'. A law counts once. -/
mutual
def uptoBulk {H : Type} : DataW H → Nat
  | .lit (.string bytes) => bytes.length + 1
  | .lit _ => 1
  | .nil => 1
  | .ptr d => uptoBulk d + 1
  | .slice elems spare => uptoBulkAll elems + uptoBulkAll spare + 1
  | .agg parts => uptoBulkAll parts + 1
  | .iface _ d => uptoBulk d + 1
  | .map entries => uptoBulkEntries entries + 1
  | .held _ => 1
def uptoBulkAll {H : Type} : List (DataW H) → Nat
  | [] => 0
  | d :: r => uptoBulk d + uptoBulkAll r
def uptoBulkEntries {H : Type} : List (Lit × DataW H) → Nat
  | [] => 0
  | x :: r => uptoBulkEntry x + uptoBulkEntries r
def uptoBulkEntry {H : Type} : Lit × DataW H → Nat
  | (.string bytes, d) => bytes.length + uptoBulk d + 1
  | (_, d) => uptoBulk d + 1
 end
def uptoSmall : (H : Type) → List (DataW H) → Bool := fun _ ds => decide (uptoBulkAll ds ≤ 1048576)
def OpenSpec.upto (s : _root_.Go.ChangeSpec) : _root_.Go.OpenSpec := { _root_.Go.OpenSpec.ofChange s with cond := some uptoSmall }

/-- 'laws.FnExactRingsFor', WHERE WHAT IT READS IS OF BULK AT MOST 1048576: true; the input reads as it did. -/
def fnExactRingsForUptoRow : OpenClaim := { program := "ytcnlgoghnlcndaa", sum := "2d582bbd6a7c6e7cfcb64c146b4889d07090da8e70898de2b3d3a1ec66aba300", func := "loop.example/shortspectra/laws.FnExactRingsFor", spec := "fnExactRingsFor", apart := false, narrowed := true }
def FnExactRingsForUptoSaid : Prop := fnExactRingsForUptoRow.holds Try.pinned (OpenSpec.upto fnExactRingsForSpec)

/-- 'laws.FnRingsFor', WHERE WHAT IT READS IS OF BULK AT MOST 1048576: true; the input reads as it did. -/
def fnRingsForUptoRow : OpenClaim := { program := "ytcnlgoghnlcndaa", sum := "2d582bbd6a7c6e7cfcb64c146b4889d07090da8e70898de2b3d3a1ec66aba300", func := "loop.example/shortspectra/laws.FnRingsFor", spec := "fnRingsFor", apart := false, narrowed := true }
def FnRingsForUptoSaid : Prop := fnRingsForUptoRow.holds Try.pinned (OpenSpec.upto fnRingsForSpec)

/-- 'laws.FnExactWindowOf', WHERE WHAT IT READS IS OF BULK AT MOST 1048576: true; the input reads as it did. -/
def fnExactWindowOfUptoRow : OpenClaim := { program := "ytcnlgoghnlcndaa", sum := "2d582bbd6a7c6e7cfcb64c146b4889d07090da8e70898de2b3d3a1ec66aba300", func := "loop.example/shortspectra/laws.FnExactWindowOf", spec := "fnExactWindowOf", apart := false, narrowed := true }
def FnExactWindowOfUptoSaid : Prop := fnExactWindowOfUptoRow.holds Try.pinned (OpenSpec.upto fnExactWindowOfSpec)

/-- 'laws.FnSubnormal', WHERE WHAT IT READS IS OF BULK AT MOST 1048576: true; the input reads as it did. -/
def fnSubnormalUptoRow : OpenClaim := { program := "ytcnlgoghnlcndaa", sum := "2d582bbd6a7c6e7cfcb64c146b4889d07090da8e70898de2b3d3a1ec66aba300", func := "loop.example/shortspectra/laws.FnSubnormal", spec := "fnSubnormal", apart := false, narrowed := true }
def FnSubnormalUptoSaid : Prop := fnSubnormalUptoRow.holds Try.pinned (OpenSpec.upto fnSubnormalSpec)

/-- 'laws.FnTapsOk', WHERE WHAT IT READS IS OF BULK AT MOST 1048576: true; the input reads as it did. -/
def fnTapsOkUptoRow : OpenClaim := { program := "ytcnlgoghnlcndaa", sum := "2d582bbd6a7c6e7cfcb64c146b4889d07090da8e70898de2b3d3a1ec66aba300", func := "loop.example/shortspectra/laws.FnTapsOk", spec := "fnTapsOk", apart := false, narrowed := true }
def FnTapsOkUptoSaid : Prop := fnTapsOkUptoRow.holds Try.pinned (OpenSpec.upto fnTapsOkSpec)

/-- 'laws.FnWindowOf', WHERE WHAT IT READS IS OF BULK AT MOST 1048576: true; the input reads as it did. -/
def fnWindowOfUptoRow : OpenClaim := { program := "ytcnlgoghnlcndaa", sum := "2d582bbd6a7c6e7cfcb64c146b4889d07090da8e70898de2b3d3a1ec66aba300", func := "loop.example/shortspectra/laws.FnWindowOf", spec := "fnWindowOf", apart := false, narrowed := true }
def FnWindowOfUptoSaid : Prop := fnWindowOfUptoRow.holds Try.pinned (OpenSpec.upto fnWindowOfSpec)

/-- 'laws.FnFlushed', WHERE WHAT IT READS IS OF BULK AT MOST 1048576: true; the input reads as it did. -/
def fnFlushedUptoRow : OpenClaim := { program := "ytcnlgoghnlcndaa", sum := "2d582bbd6a7c6e7cfcb64c146b4889d07090da8e70898de2b3d3a1ec66aba300", func := "loop.example/shortspectra/laws.FnFlushed", spec := "fnFlushed", apart := false, narrowed := true }
def FnFlushedUptoSaid : Prop := fnFlushedUptoRow.holds Try.pinned (OpenSpec.upto fnFlushedSpec)

/-- 'laws.FnWithNoughts', WHERE WHAT IT READS IS OF BULK AT MOST 1048576: true; the input reads as it did. -/
def fnWithNoughtsUptoRow : OpenClaim := { program := "ytcnlgoghnlcndaa", sum := "2d582bbd6a7c6e7cfcb64c146b4889d07090da8e70898de2b3d3a1ec66aba300", func := "loop.example/shortspectra/laws.FnWithNoughts", spec := "fnWithNoughts", apart := false, narrowed := true }
def FnWithNoughtsUptoSaid : Prop := fnWithNoughtsUptoRow.holds Try.pinned (OpenSpec.upto fnWithNoughtsSpec)

/-- 'laws.FnPieceOf', WHERE WHAT IT READS IS OF BULK AT MOST 1048576: true; the input reads as it did. -/
def fnPieceOfUptoRow : OpenClaim := { program := "ytcnlgoghnlcndaa", sum := "2d582bbd6a7c6e7cfcb64c146b4889d07090da8e70898de2b3d3a1ec66aba300", func := "loop.example/shortspectra/laws.FnPieceOf", spec := "fnPieceOf", apart := false, narrowed := true }
def FnPieceOfUptoSaid : Prop := fnPieceOfUptoRow.holds Try.pinned (OpenSpec.upto fnPieceOfSpec)

/-- 'laws.FnGreatestOf', WHERE WHAT IT READS IS OF BULK AT MOST 1048576: true; the input reads as it did. -/
def fnGreatestOfUptoRow : OpenClaim := { program := "ytcnlgoghnlcndaa", sum := "2d582bbd6a7c6e7cfcb64c146b4889d07090da8e70898de2b3d3a1ec66aba300", func := "loop.example/shortspectra/laws.FnGreatestOf", spec := "fnGreatestOf", apart := false, narrowed := true }
def FnGreatestOfUptoSaid : Prop := fnGreatestOfUptoRow.holds Try.pinned (OpenSpec.upto fnGreatestOfSpec)

/-- 'laws.FnWindowed', WHERE WHAT IT READS IS OF BULK AT MOST 1048576: true; the input reads as it did. -/
def fnWindowedUptoRow : OpenClaim := { program := "ytcnlgoghnlcndaa", sum := "2d582bbd6a7c6e7cfcb64c146b4889d07090da8e70898de2b3d3a1ec66aba300", func := "loop.example/shortspectra/laws.FnWindowed", spec := "fnWindowed", apart := false, narrowed := true }
def FnWindowedUptoSaid : Prop := fnWindowedUptoRow.holds Try.pinned (OpenSpec.upto fnWindowedSpec)

/-- 'laws.FnPowersOf', WHERE WHAT IT READS IS OF BULK AT MOST 1048576: true; the input reads as it did. -/
def fnPowersOfUptoRow : OpenClaim := { program := "ytcnlgoghnlcndaa", sum := "2d582bbd6a7c6e7cfcb64c146b4889d07090da8e70898de2b3d3a1ec66aba300", func := "loop.example/shortspectra/laws.FnPowersOf", spec := "fnPowersOf", apart := false, narrowed := true }
def FnPowersOfUptoSaid : Prop := fnPowersOfUptoRow.holds Try.pinned (OpenSpec.upto fnPowersOfSpec)

/-- 'laws.FnFromPairs', WHERE WHAT IT READS IS OF BULK AT MOST 1048576: true; the input reads as it did. -/
def fnFromPairsUptoRow : OpenClaim := { program := "ytcnlgoghnlcndaa", sum := "2d582bbd6a7c6e7cfcb64c146b4889d07090da8e70898de2b3d3a1ec66aba300", func := "loop.example/shortspectra/laws.FnFromPairs", spec := "fnFromPairs", recurses := true, apart := false, narrowed := true }
def FnFromPairsUptoSaid : Prop := fnFromPairsUptoRow.holds Try.pinned (OpenSpec.upto fnFromPairsSpec)

/-- 'laws.FnShareOf', WHERE WHAT IT READS IS OF BULK AT MOST 1048576: true; the input reads as it did. -/
def fnShareOfUptoRow : OpenClaim := { program := "ytcnlgoghnlcndaa", sum := "2d582bbd6a7c6e7cfcb64c146b4889d07090da8e70898de2b3d3a1ec66aba300", func := "loop.example/shortspectra/laws.FnShareOf", spec := "fnShareOf", inPlace := ["math.Float64bits", "math.Float64frombits"], apart := false, narrowed := true }
def FnShareOfUptoSaid : Prop := fnShareOfUptoRow.holds Try.pinned (OpenSpec.upto fnShareOfSpec)

/-- 'laws.FnTogether', WHERE WHAT IT READS IS OF BULK AT MOST 1048576: true; the input reads as it did. -/
def fnTogetherUptoRow : OpenClaim := { program := "ytcnlgoghnlcndaa", sum := "2d582bbd6a7c6e7cfcb64c146b4889d07090da8e70898de2b3d3a1ec66aba300", func := "loop.example/shortspectra/laws.FnTogether", spec := "fnTogether", apart := false, narrowed := true }
def FnTogetherUptoSaid : Prop := fnTogetherUptoRow.holds Try.pinned (OpenSpec.upto fnTogetherSpec)

/-- 'laws.FnFastOf', WHERE WHAT IT READS IS OF BULK AT MOST 1048576: true; the input reads as it did. -/
def fnFastOfUptoRow : OpenClaim := { program := "ytcnlgoghnlcndaa", sum := "2d582bbd6a7c6e7cfcb64c146b4889d07090da8e70898de2b3d3a1ec66aba300", func := "loop.example/shortspectra/laws.FnFastOf", spec := "fnFastOf", recurses := true, apart := false, narrowed := true }
def FnFastOfUptoSaid : Prop := fnFastOfUptoRow.holds Try.pinned (OpenSpec.upto fnFastOfSpec)

/-- 'laws.FnPiecesOf', WHERE WHAT IT READS IS OF BULK AT MOST 1048576: true; the input reads as it did. -/
def fnPiecesOfUptoRow : OpenClaim := { program := "ytcnlgoghnlcndaa", sum := "2d582bbd6a7c6e7cfcb64c146b4889d07090da8e70898de2b3d3a1ec66aba300", func := "loop.example/shortspectra/laws.FnPiecesOf", spec := "fnPiecesOf", apart := false, narrowed := true }
def FnPiecesOfUptoSaid : Prop := fnPiecesOfUptoRow.holds Try.pinned (OpenSpec.upto fnPiecesOfSpec)

end Rows
end Go.Proofs.Ytcnlgoghnlcndaa
