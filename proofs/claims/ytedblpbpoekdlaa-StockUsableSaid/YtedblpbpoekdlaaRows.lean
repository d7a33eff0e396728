/-
  No cell of these rows narrows 'for every input' (looked for: loops, veiled, ifaces, maps, wideKeys, modest, calm, conditions, laid).
  DERIVED. THE GIVEN ROWS OF THIS SEAT. 12 by the template 'for every input the law returns true; each argument reads behind the call as it read before'; 0 by the template 'total and deterministic' (their statements: YtedblpbpoekdlaaTotals.lean).
  GIVEN WITH THE SEED: the statements are not yours to turn. If you find one false, say at which input.
  Laid BY PROGRAM, IN A SANDBOX (cutbox-rows.mjs): the forced cells as the released guide's own fill.sh prints them over the translation 7110c8c9847a2b4c… (all of the seat's roots in one cut). By AI agents, Wed Nov 11 2026. No macro, syntax, notation, axiom, sorry.
-/
import Derived.Test.YtedblpbpoekdlaaChecked
import GoSem.Claim
import GoSem.ClaimJoined
import GoSem.ClaimMapViews
import Derived.JoinedTies
import Derived.KernelRfl
namespace Go.Proofs.Ytedblpbpoekdlaa
/- THE CELL 'sum', in the pinned program and in every row, IS THE sha256 OF THE DUMP (.gsa) THAT YtedblpbpoekdlaaProg.lean LOADS. Nothing in Lean hashes anything: it is a label: what it is worth is what the hold of that sum in a sandbox is worth. -/
noncomputable def Try.pinned : Pinned := { name := "ytedblpbpoekdlaa", sum := "7110c8c9847a2b4c3efa02cf30da5e175a6b921f23c3464abade920eb7f4be34", checked := Try.checked }
namespace Rows
def none {H : Type} : Left H := { results := [], args := [] }

/-- 'backflushlaw40.QualityCertifySpec': WHATEVER THE INPUT: true; the input reads as it did. -/
def qualityCertifySpecSpec : ChangeSpec := { name := "qualityCertifySpec", fn := fun _ => fun
  | [d1, d2, d3, d4, d5, d6] => { results := [.lit (.bool true)], args := [d1, d2, d3, d4, d5, d6] }
  | _ => none }
def qualityCertifySpecRow : OpenClaim := { program := "ytedblpbpoekdlaa", sum := "7110c8c9847a2b4c3efa02cf30da5e175a6b921f23c3464abade920eb7f4be34", func := "backflush/backflushlaw40.QualityCertifySpec", spec := "qualityCertifySpec", unfollowed := true, recurses := true, apart := false }
def QualityCertifySpecSaid : Prop := qualityCertifySpecRow.holds Try.pinned (OpenSpec.ofChange qualityCertifySpecSpec)

/-- ITS FALSE NEIGHBOUR: 'it returns false'. Refute it at one input. -/
def qualityCertifySpecWrong : ChangeSpec := { name := "qualityCertifySpec", fn := fun _ => fun
  | [d1, d2, d3, d4, d5, d6] => { results := [.lit (.bool false)], args := [d1, d2, d3, d4, d5, d6] }
  | _ => none }
def QualityCertifySpecWrongFalsely : Prop := qualityCertifySpecRow.holds Try.pinned (OpenSpec.ofChange qualityCertifySpecWrong)

/-- 'backflushlaw40.QualityStateSpec': WHATEVER THE INPUT: true; the input reads as it did. -/
def qualityStateSpecSpec : ChangeSpec := { name := "qualityStateSpec", fn := fun _ => fun
  | [d1, d2, d3, d4, d5, d6, d7] => { results := [.lit (.bool true)], args := [d1, d2, d3, d4, d5, d6, d7] }
  | _ => none }
def qualityStateSpecRow : OpenClaim := { program := "ytedblpbpoekdlaa", sum := "7110c8c9847a2b4c3efa02cf30da5e175a6b921f23c3464abade920eb7f4be34", func := "backflush/backflushlaw40.QualityStateSpec", spec := "qualityStateSpec", unfollowed := true, recurses := true, apart := false }
def QualityStateSpecSaid : Prop := qualityStateSpecRow.holds Try.pinned (OpenSpec.ofChange qualityStateSpecSpec)

/-- ITS FALSE NEIGHBOUR: 'it returns false'. Refute it at one input. -/
def qualityStateSpecWrong : ChangeSpec := { name := "qualityStateSpec", fn := fun _ => fun
  | [d1, d2, d3, d4, d5, d6, d7] => { results := [.lit (.bool false)], args := [d1, d2, d3, d4, d5, d6, d7] }
  | _ => none }
def QualityStateSpecWrongFalsely : Prop := qualityStateSpecRow.holds Try.pinned (OpenSpec.ofChange qualityStateSpecWrong)

/-- 'backflushlaw40.QualityFree': WHATEVER THE INPUT: true; the input reads as it did. -/
def qualityFreeSpec : ChangeSpec := { name := "qualityFree", fn := fun _ => fun
  | [d1, d2, d3, d4, d5, d6] => { results := [.lit (.bool true)], args := [d1, d2, d3, d4, d5, d6] }
  | _ => none }
def qualityFreeRow : OpenClaim := { program := "ytedblpbpoekdlaa", sum := "7110c8c9847a2b4c3efa02cf30da5e175a6b921f23c3464abade920eb7f4be34", func := "backflush/backflushlaw40.QualityFree", spec := "qualityFree", unfollowed := true, recurses := true, apart := false }
def QualityFreeSaid : Prop := qualityFreeRow.holds Try.pinned (OpenSpec.ofChange qualityFreeSpec)

/-- ITS FALSE NEIGHBOUR: 'it returns false'. Refute it at one input. -/
def qualityFreeWrong : ChangeSpec := { name := "qualityFree", fn := fun _ => fun
  | [d1, d2, d3, d4, d5, d6] => { results := [.lit (.bool false)], args := [d1, d2, d3, d4, d5, d6] }
  | _ => none }
def QualityFreeWrongFalsely : Prop := qualityFreeRow.holds Try.pinned (OpenSpec.ofChange qualityFreeWrong)

/-- 'backflushlaw40.QualityMore': WHATEVER THE INPUT: true; the input reads as it did. -/
def qualityMoreSpec : ChangeSpec := { name := "qualityMore", fn := fun _ => fun
  | [d1, d2, d3, d4, d5, d6, d7, d8] => { results := [.lit (.bool true)], args := [d1, d2, d3, d4, d5, d6, d7, d8] }
  | _ => none }
def qualityMoreRow : OpenClaim := { program := "ytedblpbpoekdlaa", sum := "7110c8c9847a2b4c3efa02cf30da5e175a6b921f23c3464abade920eb7f4be34", func := "backflush/backflushlaw40.QualityMore", spec := "qualityMore", unfollowed := true, recurses := true, apart := false }
def QualityMoreSaid : Prop := qualityMoreRow.holds Try.pinned (OpenSpec.ofChange qualityMoreSpec)

/-- ITS FALSE NEIGHBOUR: 'it returns false'. Refute it at one input. -/
def qualityMoreWrong : ChangeSpec := { name := "qualityMore", fn := fun _ => fun
  | [d1, d2, d3, d4, d5, d6, d7, d8] => { results := [.lit (.bool false)], args := [d1, d2, d3, d4, d5, d6, d7, d8] }
  | _ => none }
def QualityMoreWrongFalsely : Prop := qualityMoreRow.holds Try.pinned (OpenSpec.ofChange qualityMoreWrong)

/-- 'backflushlaw40.QualityTrue': WHATEVER THE INPUT: true; the input reads as it did. -/
def qualityTrueSpec : ChangeSpec := { name := "qualityTrue", fn := fun _ => fun
  | [d1, d2, d3, d4, d5] => { results := [.lit (.bool true)], args := [d1, d2, d3, d4, d5] }
  | _ => none }
def qualityTrueRow : OpenClaim := { program := "ytedblpbpoekdlaa", sum := "7110c8c9847a2b4c3efa02cf30da5e175a6b921f23c3464abade920eb7f4be34", func := "backflush/backflushlaw40.QualityTrue", spec := "qualityTrue", unfollowed := true, recurses := true, apart := false }
def QualityTrueSaid : Prop := qualityTrueRow.holds Try.pinned (OpenSpec.ofChange qualityTrueSpec)

/-- ITS FALSE NEIGHBOUR: 'it returns false'. Refute it at one input. -/
def qualityTrueWrong : ChangeSpec := { name := "qualityTrue", fn := fun _ => fun
  | [d1, d2, d3, d4, d5] => { results := [.lit (.bool false)], args := [d1, d2, d3, d4, d5] }
  | _ => none }
def QualityTrueWrongFalsely : Prop := qualityTrueRow.holds Try.pinned (OpenSpec.ofChange qualityTrueWrong)

/-- 'backflushlaw40.QualityReads': WHATEVER THE INPUT: true; the input reads as it did. -/
def qualityReadsSpec : ChangeSpec := { name := "qualityReads", fn := fun _ => fun
  | [d1, d2, d3, d4, d5, d6, d7] => { results := [.lit (.bool true)], args := [d1, d2, d3, d4, d5, d6, d7] }
  | _ => none }
def qualityReadsRow : OpenClaim := { program := "ytedblpbpoekdlaa", sum := "7110c8c9847a2b4c3efa02cf30da5e175a6b921f23c3464abade920eb7f4be34", func := "backflush/backflushlaw40.QualityReads", spec := "qualityReads", unfollowed := true, recurses := true, apart := false }
def QualityReadsSaid : Prop := qualityReadsRow.holds Try.pinned (OpenSpec.ofChange qualityReadsSpec)

/-- ITS FALSE NEIGHBOUR: 'it returns false'. Refute it at one input. -/
def qualityReadsWrong : ChangeSpec := { name := "qualityReads", fn := fun _ => fun
  | [d1, d2, d3, d4, d5, d6, d7] => { results := [.lit (.bool false)], args := [d1, d2, d3, d4, d5, d6, d7] }
  | _ => none }
def QualityReadsWrongFalsely : Prop := qualityReadsRow.holds Try.pinned (OpenSpec.ofChange qualityReadsWrong)

/-- 'backflushlaw18.StockLotSpec': WHATEVER THE INPUT: true; the input reads as it did. -/
def stockLotSpecSpec : ChangeSpec := { name := "stockLotSpec", fn := fun _ => fun
  | [d1, d2, d3, d4, d5] => { results := [.lit (.bool true)], args := [d1, d2, d3, d4, d5] }
  | _ => none }
def stockLotSpecRow : OpenClaim := { program := "ytedblpbpoekdlaa", sum := "7110c8c9847a2b4c3efa02cf30da5e175a6b921f23c3464abade920eb7f4be34", func := "backflush/backflushlaw18.StockLotSpec", spec := "stockLotSpec", unfollowed := true, recurses := true, apart := false }
def StockLotSpecSaid : Prop := stockLotSpecRow.holds Try.pinned (OpenSpec.ofChange stockLotSpecSpec)

/-- ITS FALSE NEIGHBOUR: 'it returns false'. Refute it at one input. -/
def stockLotSpecWrong : ChangeSpec := { name := "stockLotSpec", fn := fun _ => fun
  | [d1, d2, d3, d4, d5] => { results := [.lit (.bool false)], args := [d1, d2, d3, d4, d5] }
  | _ => none }
def StockLotSpecWrongFalsely : Prop := stockLotSpecRow.holds Try.pinned (OpenSpec.ofChange stockLotSpecWrong)

/-- 'backflushlaw18.StockBack': WHATEVER THE INPUT: true; the input reads as it did. -/
def stockBackSpec : ChangeSpec := { name := "stockBack", fn := fun _ => fun
  | [d1, d2, d3, d4, d5, d6, d7] => { results := [.lit (.bool true)], args := [d1, d2, d3, d4, d5, d6, d7] }
  | _ => none }
def stockBackRow : OpenClaim := { program := "ytedblpbpoekdlaa", sum := "7110c8c9847a2b4c3efa02cf30da5e175a6b921f23c3464abade920eb7f4be34", func := "backflush/backflushlaw18.StockBack", spec := "stockBack", unfollowed := true, recurses := true, apart := false }
def StockBackSaid : Prop := stockBackRow.holds Try.pinned (OpenSpec.ofChange stockBackSpec)

/-- ITS FALSE NEIGHBOUR: 'it returns false'. Refute it at one input. -/
def stockBackWrong : ChangeSpec := { name := "stockBack", fn := fun _ => fun
  | [d1, d2, d3, d4, d5, d6, d7] => { results := [.lit (.bool false)], args := [d1, d2, d3, d4, d5, d6, d7] }
  | _ => none }
def StockBackWrongFalsely : Prop := stockBackRow.holds Try.pinned (OpenSpec.ofChange stockBackWrong)

/-- 'backflushlaw18.StockAll': WHATEVER THE INPUT: true; the input reads as it did. -/
def stockAllSpec : ChangeSpec := { name := "stockAll", fn := fun _ => fun
  | [d1, d2, d3] => { results := [.lit (.bool true)], args := [d1, d2, d3] }
  | _ => none }
def stockAllRow : OpenClaim := { program := "ytedblpbpoekdlaa", sum := "7110c8c9847a2b4c3efa02cf30da5e175a6b921f23c3464abade920eb7f4be34", func := "backflush/backflushlaw18.StockAll", spec := "stockAll", unfollowed := true, recurses := true, apart := false }
def StockAllSaid : Prop := stockAllRow.holds Try.pinned (OpenSpec.ofChange stockAllSpec)

/-- ITS FALSE NEIGHBOUR: 'it returns false'. Refute it at one input. -/
def stockAllWrong : ChangeSpec := { name := "stockAll", fn := fun _ => fun
  | [d1, d2, d3] => { results := [.lit (.bool false)], args := [d1, d2, d3] }
  | _ => none }
def StockAllWrongFalsely : Prop := stockAllRow.holds Try.pinned (OpenSpec.ofChange stockAllWrong)

/-- 'backflushlaw18.StockUsable': WHATEVER THE INPUT: true; the input reads as it did. -/
def stockUsableSpec : ChangeSpec := { name := "stockUsable", fn := fun _ => fun
  | [d1, d2, d3, d4, d5] => { results := [.lit (.bool true)], args := [d1, d2, d3, d4, d5] }
  | _ => none }
def stockUsableRow : OpenClaim := { program := "ytedblpbpoekdlaa", sum := "7110c8c9847a2b4c3efa02cf30da5e175a6b921f23c3464abade920eb7f4be34", func := "backflush/backflushlaw18.StockUsable", spec := "stockUsable", unfollowed := true, recurses := true, apart := false }
def StockUsableSaid : Prop := stockUsableRow.holds Try.pinned (OpenSpec.ofChange stockUsableSpec)

/-- ITS FALSE NEIGHBOUR: 'it returns false'. Refute it at one input. -/
def stockUsableWrong : ChangeSpec := { name := "stockUsable", fn := fun _ => fun
  | [d1, d2, d3, d4, d5] => { results := [.lit (.bool false)], args := [d1, d2, d3, d4, d5] }
  | _ => none }
def StockUsableWrongFalsely : Prop := stockUsableRow.holds Try.pinned (OpenSpec.ofChange stockUsableWrong)

/-- 'backflushlaw18.StockReads': WHATEVER THE INPUT: true; the input reads as it did. -/
def stockReadsSpec : ChangeSpec := { name := "stockReads", fn := fun _ => fun
  | [d1, d2, d3, d4, d5, d6] => { results := [.lit (.bool true)], args := [d1, d2, d3, d4, d5, d6] }
  | _ => none }
def stockReadsRow : OpenClaim := { program := "ytedblpbpoekdlaa", sum := "7110c8c9847a2b4c3efa02cf30da5e175a6b921f23c3464abade920eb7f4be34", func := "backflush/backflushlaw18.StockReads", spec := "stockReads", unfollowed := true, recurses := true, apart := false }
def StockReadsSaid : Prop := stockReadsRow.holds Try.pinned (OpenSpec.ofChange stockReadsSpec)

/-- ITS FALSE NEIGHBOUR: 'it returns false'. Refute it at one input. -/
def stockReadsWrong : ChangeSpec := { name := "stockReads", fn := fun _ => fun
  | [d1, d2, d3, d4, d5, d6] => { results := [.lit (.bool false)], args := [d1, d2, d3, d4, d5, d6] }
  | _ => none }
def StockReadsWrongFalsely : Prop := stockReadsRow.holds Try.pinned (OpenSpec.ofChange stockReadsWrong)

/-- 'backflushlaw18.StockPast': WHATEVER THE INPUT: true; the input reads as it did. -/
def stockPastSpec : ChangeSpec := { name := "stockPast", fn := fun _ => fun
  | [d1, d2, d3, d4] => { results := [.lit (.bool true)], args := [d1, d2, d3, d4] }
  | _ => none }
def stockPastRow : OpenClaim := { program := "ytedblpbpoekdlaa", sum := "7110c8c9847a2b4c3efa02cf30da5e175a6b921f23c3464abade920eb7f4be34", func := "backflush/backflushlaw18.StockPast", spec := "stockPast", unfollowed := true, recurses := true, apart := false }
def StockPastSaid : Prop := stockPastRow.holds Try.pinned (OpenSpec.ofChange stockPastSpec)

/-- ITS FALSE NEIGHBOUR: 'it returns false'. Refute it at one input. -/
def stockPastWrong : ChangeSpec := { name := "stockPast", fn := fun _ => fun
  | [d1, d2, d3, d4] => { results := [.lit (.bool false)], args := [d1, d2, d3, d4] }
  | _ => none }
def StockPastWrongFalsely : Prop := stockPastRow.holds Try.pinned (OpenSpec.ofChange stockPastWrong)

/- THE SECOND FORM. 'bulk': how many values and letters a reading holds, each counted each time it is reached (what is shared counts as often as it is met; a slice's spare places count too). A statement '..UptoSaid' is the law's where the arguments, and the package variables that the reading takes, are together of bulk at most 1048576: NARROWER than '..Said'. Prove '..Said' where nothing that the law and all that it calls make is longer than what came in: it says more and counts as full. Else prove '..UptoSaid'. A law counts once. -/
mutual
def uptoBulk {H : Type} : DataW H → Nat
  | .lit (.string bytes) => bytes.length + 1
  | .lit _ => 1
  | .nil => 1
  | .ptr d => uptoBulk d + 1
  | .slice elems spare => uptoBulkAll elems + uptoBulkAll spare + 1
  | .agg parts => uptoBulkAll parts + 1
  | .iface _ d => uptoBulk d + 1
  | .map entries => uptoBulkEntries entries + 1
  | .held _ => 1
def uptoBulkAll {H : Type} : List (DataW H) → Nat
  | [] => 0
  | d :: r => uptoBulk d + uptoBulkAll r
def uptoBulkEntries {H : Type} : List (Lit × DataW H) → Nat
  | [] => 0
  | x :: r => uptoBulkEntry x + uptoBulkEntries r
def uptoBulkEntry {H : Type} : Lit × DataW H → Nat
  | (.string bytes, d) => bytes.length + uptoBulk d + 1
  | (_, d) => uptoBulk d + 1
 end
def uptoSmall : (H : Type) → List (DataW H) → Bool := fun _ ds => decide (uptoBulkAll ds ≤ 1048576)
def OpenSpec.upto (s : _root_.Go.ChangeSpec) : _root_.Go.OpenSpec := { _root_.Go.OpenSpec.ofChange s with cond := some uptoSmall }

/-- 'backflushlaw40.QualityCertifySpec', WHERE WHAT IT READS IS OF BULK AT MOST 1048576: true; the input reads as it did. -/
def qualityCertifySpecUptoRow : OpenClaim := { program := "ytedblpbpoekdlaa", sum := "7110c8c9847a2b4c3efa02cf30da5e175a6b921f23c3464abade920eb7f4be34", func := "backflush/backflushlaw40.QualityCertifySpec", spec := "qualityCertifySpec", unfollowed := true, recurses := true, apart := false, narrowed := true }
def QualityCertifySpecUptoSaid : Prop := qualityCertifySpecUptoRow.holds Try.pinned (OpenSpec.upto qualityCertifySpecSpec)

/-- 'backflushlaw40.QualityStateSpec', WHERE WHAT IT READS IS OF BULK AT MOST 1048576: true; the input reads as it did. -/
def qualityStateSpecUptoRow : OpenClaim := { program := "ytedblpbpoekdlaa", sum := "7110c8c9847a2b4c3efa02cf30da5e175a6b921f23c3464abade920eb7f4be34", func := "backflush/backflushlaw40.QualityStateSpec", spec := "qualityStateSpec", unfollowed := true, recurses := true, apart := false, narrowed := true }
def QualityStateSpecUptoSaid : Prop := qualityStateSpecUptoRow.holds Try.pinned (OpenSpec.upto qualityStateSpecSpec)

/-- 'backflushlaw40.QualityFree', WHERE WHAT IT READS IS OF BULK AT MOST 1048576: true; the input reads as it did. -/
def qualityFreeUptoRow : OpenClaim := { program := "ytedblpbpoekdlaa", sum := "7110c8c9847a2b4c3efa02cf30da5e175a6b921f23c3464abade920eb7f4be34", func := "backflush/backflushlaw40.QualityFree", spec := "qualityFree", unfollowed := true, recurses := true, apart := false, narrowed := true }
def QualityFreeUptoSaid : Prop := qualityFreeUptoRow.holds Try.pinned (OpenSpec.upto qualityFreeSpec)

/-- 'backflushlaw40.QualityMore', WHERE WHAT IT READS IS OF BULK AT MOST 1048576: true; the input reads as it did. -/
def qualityMoreUptoRow : OpenClaim := { program := "ytedblpbpoekdlaa", sum := "7110c8c9847a2b4c3efa02cf30da5e175a6b921f23c3464abade920eb7f4be34", func := "backflush/backflushlaw40.QualityMore", spec := "qualityMore", unfollowed := true, recurses := true, apart := false, narrowed := true }
def QualityMoreUptoSaid : Prop := qualityMoreUptoRow.holds Try.pinned (OpenSpec.upto qualityMoreSpec)

/-- 'backflushlaw40.QualityTrue', WHERE WHAT IT READS IS OF BULK AT MOST 1048576: true; the input reads as it did. -/
def qualityTrueUptoRow : OpenClaim := { program := "ytedblpbpoekdlaa", sum := "7110c8c9847a2b4c3efa02cf30da5e175a6b921f23c3464abade920eb7f4be34", func := "backflush/backflushlaw40.QualityTrue", spec := "qualityTrue", unfollowed := true, recurses := true, apart := false, narrowed := true }
def QualityTrueUptoSaid : Prop := qualityTrueUptoRow.holds Try.pinned (OpenSpec.upto qualityTrueSpec)

/-- 'backflushlaw40.QualityReads', WHERE WHAT IT READS IS OF BULK AT MOST 1048576: true; the input reads as it did. -/
def qualityReadsUptoRow : OpenClaim := { program := "ytedblpbpoekdlaa", sum := "7110c8c9847a2b4c3efa02cf30da5e175a6b921f23c3464abade920eb7f4be34", func := "backflush/backflushlaw40.QualityReads", spec := "qualityReads", unfollowed := true, recurses := true, apart := false, narrowed := true }
def QualityReadsUptoSaid : Prop := qualityReadsUptoRow.holds Try.pinned (OpenSpec.upto qualityReadsSpec)

/-- 'backflushlaw18.StockLotSpec', WHERE WHAT IT READS IS OF BULK AT MOST 1048576: true; the input reads as it did. -/
def stockLotSpecUptoRow : OpenClaim := { program := "ytedblpbpoekdlaa", sum := "7110c8c9847a2b4c3efa02cf30da5e175a6b921f23c3464abade920eb7f4be34", func := "backflush/backflushlaw18.StockLotSpec", spec := "stockLotSpec", unfollowed := true, recurses := true, apart := false, narrowed := true }
def StockLotSpecUptoSaid : Prop := stockLotSpecUptoRow.holds Try.pinned (OpenSpec.upto stockLotSpecSpec)

/-- 'backflushlaw18.StockBack', WHERE WHAT IT READS IS OF BULK AT MOST 1048576: true; the input reads as it did. -/
def stockBackUptoRow : OpenClaim := { program := "ytedblpbpoekdlaa", sum := "7110c8c9847a2b4c3efa02cf30da5e175a6b921f23c3464abade920eb7f4be34", func := "backflush/backflushlaw18.StockBack", spec := "stockBack", unfollowed := true, recurses := true, apart := false, narrowed := true }
def StockBackUptoSaid : Prop := stockBackUptoRow.holds Try.pinned (OpenSpec.upto stockBackSpec)

/-- 'backflushlaw18.StockAll', WHERE WHAT IT READS IS OF BULK AT MOST 1048576: true; the input reads as it did. -/
def stockAllUptoRow : OpenClaim := { program := "ytedblpbpoekdlaa", sum := "7110c8c9847a2b4c3efa02cf30da5e175a6b921f23c3464abade920eb7f4be34", func := "backflush/backflushlaw18.StockAll", spec := "stockAll", unfollowed := true, recurses := true, apart := false, narrowed := true }
def StockAllUptoSaid : Prop := stockAllUptoRow.holds Try.pinned (OpenSpec.upto stockAllSpec)

/-- 'backflushlaw18.StockUsable', WHERE WHAT IT READS IS OF BULK AT MOST 1048576: true; the input reads as it did. -/
def stockUsableUptoRow : OpenClaim := { program := "ytedblpbpoekdlaa", sum := "7110c8c9847a2b4c3efa02cf30da5e175a6b921f23c3464abade920eb7f4be34", func := "backflush/backflushlaw18.StockUsable", spec := "stockUsable", unfollowed := true, recurses := true, apart := false, narrowed := true }
def StockUsableUptoSaid : Prop := stockUsableUptoRow.holds Try.pinned (OpenSpec.upto stockUsableSpec)

/-- 'backflushlaw18.StockReads', WHERE WHAT IT READS IS OF BULK AT MOST 1048576: true; the input reads as it did. -/
def stockReadsUptoRow : OpenClaim := { program := "ytedblpbpoekdlaa", sum := "7110c8c9847a2b4c3efa02cf30da5e175a6b921f23c3464abade920eb7f4be34", func := "backflush/backflushlaw18.StockReads", spec := "stockReads", unfollowed := true, recurses := true, apart := false, narrowed := true }
def StockReadsUptoSaid : Prop := stockReadsUptoRow.holds Try.pinned (OpenSpec.upto stockReadsSpec)

/-- 'backflushlaw18.StockPast', WHERE WHAT IT READS IS OF BULK AT MOST 1048576: true; the input reads as it did. -/
def stockPastUptoRow : OpenClaim := { program := "ytedblpbpoekdlaa", sum := "7110c8c9847a2b4c3efa02cf30da5e175a6b921f23c3464abade920eb7f4be34", func := "backflush/backflushlaw18.StockPast", spec := "stockPast", unfollowed := true, recurses := true, apart := false, narrowed := true }
def StockPastUptoSaid : Prop := stockPastUptoRow.holds Try.pinned (OpenSpec.upto stockPastSpec)

end Rows
end Go.Proofs.Ytedblpbpoekdlaa
