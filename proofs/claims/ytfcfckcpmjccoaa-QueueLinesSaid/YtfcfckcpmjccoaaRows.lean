/-
  No cell of these rows narrows 'for every input' (looked for: loops, veiled, ifaces, maps, wideKeys, modest, calm, conditions, laid).
  DERIVED. THE GIVEN ROWS OF THIS SEAT. 4 by the template 'for every input the law returns true; each argument reads behind the call as it read before'; 0 by the template 'total and deterministic' (their statements: YtfcfckcpmjccoaaTotals.lean).
  GIVEN WITH THE SEED: the statements are not yours to turn. If you find one false, say at which input.
  Laid BY PROGRAM, IN A SANDBOX (cutbox-rows.mjs): the forced cells as the released guide's own fill.sh prints them over the translation 639cd302f4cb6165… (all of the seat's roots in one cut). By AI agents, Wed Nov 11 2026. No macro, syntax, notation, axiom, sorry.
-/
import Derived.Test.YtfcfckcpmjccoaaChecked
import GoSem.Claim
import GoSem.ClaimJoined
import GoSem.ClaimMapViews
import Derived.JoinedTies
import Derived.KernelRfl
namespace Go.Proofs.Ytfcfckcpmjccoaa
/- THE CELL 'sum', in the pinned program and in every row, IS THE sha256 OF THE DUMP (.gsa) THAT YtfcfckcpmjccoaaProg.lean LOADS. Nothing in Lean hashes anything: it is a label: what it is worth is what the hold of that sum in a sandbox is worth. -/
noncomputable def Try.pinned : Pinned := { name := "ytfcfckcpmjccoaa", sum := "639cd302f4cb61659eab39bb5b4d42c056a6a5d84435426af4b814b7717db77e", checked := Try.checked }
namespace Rows
def none {H : Type} : Left H := { results := [], args := [] }

/-- 'speculumlaw22.QueueLines': WHATEVER THE INPUT: true; the input reads as it did. -/
def queueLinesSpec : ChangeSpec := { name := "queueLines", fn := fun _ => fun
  | [d1, d2] => { results := [.lit (.bool true)], args := [d1, d2] }
  | _ => none }
def queueLinesRow : OpenClaim := { program := "ytfcfckcpmjccoaa", sum := "639cd302f4cb61659eab39bb5b4d42c056a6a5d84435426af4b814b7717db77e", func := "speculum/speculumlaw22.QueueLines", spec := "queueLines", inPlace := ["internal/bytealg.IndexByte"], apart := false }
def QueueLinesSaid : Prop := queueLinesRow.holds Try.pinned (OpenSpec.ofChange queueLinesSpec)

/-- ITS FALSE NEIGHBOUR: 'it returns false'. Refute it at one input. -/
def queueLinesWrong : ChangeSpec := { name := "queueLines", fn := fun _ => fun
  | [d1, d2] => { results := [.lit (.bool false)], args := [d1, d2] }
  | _ => none }
def QueueLinesWrongFalsely : Prop := queueLinesRow.holds Try.pinned (OpenSpec.ofChange queueLinesWrong)

/-- 'speculumlaw22.QueueFlows': WHATEVER THE INPUT: true; the input reads as it did. -/
def queueFlowsSpec : ChangeSpec := { name := "queueFlows", fn := fun _ => fun
  | [d1, d2, d3] => { results := [.lit (.bool true)], args := [d1, d2, d3] }
  | _ => none }
def queueFlowsRow : OpenClaim := { program := "ytfcfckcpmjccoaa", sum := "639cd302f4cb61659eab39bb5b4d42c056a6a5d84435426af4b814b7717db77e", func := "speculum/speculumlaw22.QueueFlows", spec := "queueFlows", inPlace := ["internal/bytealg.IndexByte"], apart := false }
def QueueFlowsSaid : Prop := queueFlowsRow.holds Try.pinned (OpenSpec.ofChange queueFlowsSpec)

/-- ITS FALSE NEIGHBOUR: 'it returns false'. Refute it at one input. -/
def queueFlowsWrong : ChangeSpec := { name := "queueFlows", fn := fun _ => fun
  | [d1, d2, d3] => { results := [.lit (.bool false)], args := [d1, d2, d3] }
  | _ => none }
def QueueFlowsWrongFalsely : Prop := queueFlowsRow.holds Try.pinned (OpenSpec.ofChange queueFlowsWrong)

/-- 'speculumlaw22.QueuePlays': WHATEVER THE INPUT: true; the input reads as it did. -/
def queuePlaysSpec : ChangeSpec := { name := "queuePlays", fn := fun _ => fun
  | [d1, d2] => { results := [.lit (.bool true)], args := [d1, d2] }
  | _ => none }
def queuePlaysRow : OpenClaim := { program := "ytfcfckcpmjccoaa", sum := "639cd302f4cb61659eab39bb5b4d42c056a6a5d84435426af4b814b7717db77e", func := "speculum/speculumlaw22.QueuePlays", spec := "queuePlays", inPlace := ["internal/bytealg.IndexByte"], apart := false }
def QueuePlaysSaid : Prop := queuePlaysRow.holds Try.pinned (OpenSpec.ofChange queuePlaysSpec)

/-- ITS FALSE NEIGHBOUR: 'it returns false'. Refute it at one input. -/
def queuePlaysWrong : ChangeSpec := { name := "queuePlays", fn := fun _ => fun
  | [d1, d2] => { results := [.lit (.bool false)], args := [d1, d2] }
  | _ => none }
def QueuePlaysWrongFalsely : Prop := queuePlaysRow.holds Try.pinned (OpenSpec.ofChange queuePlaysWrong)

/-- 'speculumlaw22.QueueNobody': WHATEVER THE INPUT: true; the input reads as it did. -/
def queueNobodySpec : ChangeSpec := { name := "queueNobody", fn := fun _ => fun
  | [d1, d2] => { results := [.lit (.bool true)], args := [d1, d2] }
  | _ => none }
def queueNobodyRow : OpenClaim := { program := "ytfcfckcpmjccoaa", sum := "639cd302f4cb61659eab39bb5b4d42c056a6a5d84435426af4b814b7717db77e", func := "speculum/speculumlaw22.QueueNobody", spec := "queueNobody", inPlace := ["internal/bytealg.IndexByte"], apart := false }
def QueueNobodySaid : Prop := queueNobodyRow.holds Try.pinned (OpenSpec.ofChange queueNobodySpec)

/-- ITS FALSE NEIGHBOUR: 'it returns false'. Refute it at one input. -/
def queueNobodyWrong : ChangeSpec := { name := "queueNobody", fn := fun _ => fun
  | [d1, d2] => { results := [.lit (.bool false)], args := [d1, d2] }
  | _ => none }
def QueueNobodyWrongFalsely : Prop := queueNobodyRow.holds Try.pinned (OpenSpec.ofChange queueNobodyWrong)

/- THE SECOND FORM. 'bulk': how many values and letters a reading holds, each counted each time it is reached (what is shared counts as often as it is met; a slice's spare places count too). A statement '..UptoSaid' is the law's where the arguments, and the package variables that the reading takes, are together of bulk at most 1048576: NARROWER than '..Said'. Prove '..Said' where nothing that the law and all that it calls make is longer than what came in: it says more and counts as full. Else prove '..UptoSaid'. A law counts once. -/
mutual
def uptoBulk {H : Type} : DataW H → Nat
  | .lit (.string bytes) => bytes.length + 1
  | .lit _ => 1
  | .nil => 1
  | .ptr d => uptoBulk d + 1
  | .slice elems spare => uptoBulkAll elems + uptoBulkAll spare + 1
  | .agg parts => uptoBulkAll parts + 1
  | .iface _ d => uptoBulk d + 1
  | .map entries => uptoBulkEntries entries + 1
  | .held _ => 1
def uptoBulkAll {H : Type} : List (DataW H) → Nat
  | [] => 0
  | d :: r => uptoBulk d + uptoBulkAll r
def uptoBulkEntries {H : Type} : List (Lit × DataW H) → Nat
  | [] => 0
  | x :: r => uptoBulkEntry x + uptoBulkEntries r
def uptoBulkEntry {H : Type} : Lit × DataW H → Nat
  | (.string bytes, d) => bytes.length + uptoBulk d + 1
  | (_, d) => uptoBulk d + 1
 end
def uptoSmall : (H : Type) → List (DataW H) → Bool := fun _ ds => decide (uptoBulkAll ds ≤ 1048576)
def OpenSpec.upto (s : _root_.Go.ChangeSpec) : _root_.Go.OpenSpec := { _root_.Go.OpenSpec.ofChange s with cond := some uptoSmall }

/-- 'speculumlaw22.QueueLines', WHERE WHAT IT READS IS OF BULK AT MOST 1048576: true; the input reads as it did. -/
def queueLinesUptoRow : OpenClaim := { program := "ytfcfckcpmjccoaa", sum := "639cd302f4cb61659eab39bb5b4d42c056a6a5d84435426af4b814b7717db77e", func := "speculum/speculumlaw22.QueueLines", spec := "queueLines", inPlace := ["internal/bytealg.IndexByte"], apart := false, narrowed := true }
def QueueLinesUptoSaid : Prop := queueLinesUptoRow.holds Try.pinned (OpenSpec.upto queueLinesSpec)

/-- 'speculumlaw22.QueueFlows', WHERE WHAT IT READS IS OF BULK AT MOST 1048576: true; the input reads as it did. -/
def queueFlowsUptoRow : OpenClaim := { program := "ytfcfckcpmjccoaa", sum := "639cd302f4cb61659eab39bb5b4d42c056a6a5d84435426af4b814b7717db77e", func := "speculum/speculumlaw22.QueueFlows", spec := "queueFlows", inPlace := ["internal/bytealg.IndexByte"], apart := false, narrowed := true }
def QueueFlowsUptoSaid : Prop := queueFlowsUptoRow.holds Try.pinned (OpenSpec.upto queueFlowsSpec)

/-- 'speculumlaw22.QueuePlays', WHERE WHAT IT READS IS OF BULK AT MOST 1048576: true; the input reads as it did. -/
def queuePlaysUptoRow : OpenClaim := { program := "ytfcfckcpmjccoaa", sum := "639cd302f4cb61659eab39bb5b4d42c056a6a5d84435426af4b814b7717db77e", func := "speculum/speculumlaw22.QueuePlays", spec := "queuePlays", inPlace := ["internal/bytealg.IndexByte"], apart := false, narrowed := true }
def QueuePlaysUptoSaid : Prop := queuePlaysUptoRow.holds Try.pinned (OpenSpec.upto queuePlaysSpec)

/-- 'speculumlaw22.QueueNobody', WHERE WHAT IT READS IS OF BULK AT MOST 1048576: true; the input reads as it did. -/
def queueNobodyUptoRow : OpenClaim := { program := "ytfcfckcpmjccoaa", sum := "639cd302f4cb61659eab39bb5b4d42c056a6a5d84435426af4b814b7717db77e", func := "speculum/speculumlaw22.QueueNobody", spec := "queueNobody", inPlace := ["internal/bytealg.IndexByte"], apart := false, narrowed := true }
def QueueNobodyUptoSaid : Prop := queueNobodyUptoRow.holds Try.pinned (OpenSpec.upto queueNobodySpec)

end Rows
end Go.Proofs.Ytfcfckcpmjccoaa
