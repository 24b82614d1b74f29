/-
  No cell of these rows narrows 'for every input' (looked for: loops, veiled, ifaces, maps, wideKeys, modest, calm, conditions, laid).
  DERIVED. THE GIVEN ROWS OF THIS SEAT. 4 by the template 'for every input the law returns true; each argument reads behind the call as it read before'; 0 by the template 'total and deterministic' (their statements: YtefnbmggokfanaaTotals.lean).
  GIVEN WITH THE SEED: the statements are not yours to turn. If you find one false, say at which input.
  Laid BY PROGRAM, IN A SANDBOX (cutbox-rows.mjs): the forced cells as the released guide's own fill.sh prints them over the translation b02305741738f0ae… (all of the seat's roots in one cut). By AI agents, Wed Nov 11 2026. No macro, syntax, notation, axiom, sorry.
-/
import Derived.Test.YtefnbmggokfanaaChecked
import GoSem.Claim
import GoSem.ClaimJoined
import GoSem.ClaimMapViews
import Derived.JoinedTies
import Derived.KernelRfl
namespace Go.Proofs.Ytefnbmggokfanaa
/- THE CELL 'sum', in the pinned program and in every row, IS THE sha256 OF THE DUMP (.gsa) THAT YtefnbmggokfanaaProg.lean LOADS. Nothing in Lean hashes anything: it is a label: what it is worth is what the hold of that sum in a sandbox is worth. -/
noncomputable def Try.pinned : Pinned := { name := "ytefnbmggokfanaa", sum := "b02305741738f0ae29ebd5d1e11c38e0b823118b8f3d244a41039034936b8553", checked := Try.checked }
namespace Rows
def none {H : Type} : Left H := { results := [], args := [] }

/-- 'speculumlaw20.ClockSets': WHATEVER THE INPUT: true; the input reads as it did. -/
def clockSetsSpec : ChangeSpec := { name := "clockSets", fn := fun _ => fun
  | [d1, d2, d3] => { results := [.lit (.bool true)], args := [d1, d2, d3] }
  | _ => none }
def clockSetsRow : OpenClaim := { program := "ytefnbmggokfanaa", sum := "b02305741738f0ae29ebd5d1e11c38e0b823118b8f3d244a41039034936b8553", func := "speculum/speculumlaw20.ClockSets", spec := "clockSets", apart := false }
def ClockSetsSaid : Prop := clockSetsRow.holds Try.pinned (OpenSpec.ofChange clockSetsSpec)

/-- ITS FALSE NEIGHBOUR: 'it returns false'. Refute it at one input. -/
def clockSetsWrong : ChangeSpec := { name := "clockSets", fn := fun _ => fun
  | [d1, d2, d3] => { results := [.lit (.bool false)], args := [d1, d2, d3] }
  | _ => none }
def ClockSetsWrongFalsely : Prop := clockSetsRow.holds Try.pinned (OpenSpec.ofChange clockSetsWrong)

/-- 'speculumlaw20.ClockTicks': WHATEVER THE INPUT: true; the input reads as it did. -/
def clockTicksSpec : ChangeSpec := { name := "clockTicks", fn := fun _ => fun
  | [d] => { results := [.lit (.bool true)], args := [d] }
  | _ => none }
def clockTicksRow : OpenClaim := { program := "ytefnbmggokfanaa", sum := "b02305741738f0ae29ebd5d1e11c38e0b823118b8f3d244a41039034936b8553", func := "speculum/speculumlaw20.ClockTicks", spec := "clockTicks", apart := false }
def ClockTicksSaid : Prop := clockTicksRow.holds Try.pinned (OpenSpec.ofChange clockTicksSpec)

/-- ITS FALSE NEIGHBOUR: 'it returns false'. Refute it at one input. -/
def clockTicksWrong : ChangeSpec := { name := "clockTicks", fn := fun _ => fun
  | [d] => { results := [.lit (.bool false)], args := [d] }
  | _ => none }
def ClockTicksWrongFalsely : Prop := clockTicksRow.holds Try.pinned (OpenSpec.ofChange clockTicksWrong)

/-- 'speculumlaw20.ClockSkips': WHATEVER THE INPUT: true; the input reads as it did. -/
def clockSkipsSpec : ChangeSpec := { name := "clockSkips", fn := fun _ => fun
  | [d1, d2] => { results := [.lit (.bool true)], args := [d1, d2] }
  | _ => none }
def clockSkipsRow : OpenClaim := { program := "ytefnbmggokfanaa", sum := "b02305741738f0ae29ebd5d1e11c38e0b823118b8f3d244a41039034936b8553", func := "speculum/speculumlaw20.ClockSkips", spec := "clockSkips", apart := false }
def ClockSkipsSaid : Prop := clockSkipsRow.holds Try.pinned (OpenSpec.ofChange clockSkipsSpec)

/-- ITS FALSE NEIGHBOUR: 'it returns false'. Refute it at one input. -/
def clockSkipsWrong : ChangeSpec := { name := "clockSkips", fn := fun _ => fun
  | [d1, d2] => { results := [.lit (.bool false)], args := [d1, d2] }
  | _ => none }
def ClockSkipsWrongFalsely : Prop := clockSkipsRow.holds Try.pinned (OpenSpec.ofChange clockSkipsWrong)

/-- 'speculumlaw20.ClockFar': WHATEVER THE INPUT: true; the input reads as it did. -/
def clockFarSpec : ChangeSpec := { name := "clockFar", fn := fun _ => fun
  | [d1, d2] => { results := [.lit (.bool true)], args := [d1, d2] }
  | _ => none }
def clockFarRow : OpenClaim := { program := "ytefnbmggokfanaa", sum := "b02305741738f0ae29ebd5d1e11c38e0b823118b8f3d244a41039034936b8553", func := "speculum/speculumlaw20.ClockFar", spec := "clockFar", apart := false }
def ClockFarSaid : Prop := clockFarRow.holds Try.pinned (OpenSpec.ofChange clockFarSpec)

/-- ITS FALSE NEIGHBOUR: 'it returns false'. Refute it at one input. -/
def clockFarWrong : ChangeSpec := { name := "clockFar", fn := fun _ => fun
  | [d1, d2] => { results := [.lit (.bool false)], args := [d1, d2] }
  | _ => none }
def ClockFarWrongFalsely : Prop := clockFarRow.holds Try.pinned (OpenSpec.ofChange clockFarWrong)

/- THE SECOND FORM. 'bulk': how many values and letters a reading holds, each counted each time it is reached (what is shared counts as often as it is met; a slice's spare places count too). A statement '..UptoSaid' is the law's where the arguments, and the package variables that the reading takes, are together of bulk at most 1048576: NARROWER than '..Said'. Prove '..Said' where nothing that the law and all that it calls make is longer than what came in: it says more and counts as full. Else prove '..UptoSaid'. A law counts once. -/
mutual
def uptoBulk {H : Type} : DataW H → Nat
  | .lit (.string bytes) => bytes.length + 1
  | .lit _ => 1
  | .nil => 1
  | .ptr d => uptoBulk d + 1
  | .slice elems spare => uptoBulkAll elems + uptoBulkAll spare + 1
  | .agg parts => uptoBulkAll parts + 1
  | .iface _ d => uptoBulk d + 1
  | .map entries => uptoBulkEntries entries + 1
  | .held _ => 1
def uptoBulkAll {H : Type} : List (DataW H) → Nat
  | [] => 0
  | d :: r => uptoBulk d + uptoBulkAll r
def uptoBulkEntries {H : Type} : List (Lit × DataW H) → Nat
  | [] => 0
  | x :: r => uptoBulkEntry x + uptoBulkEntries r
def uptoBulkEntry {H : Type} : Lit × DataW H → Nat
  | (.string bytes, d) => bytes.length + uptoBulk d + 1
  | (_, d) => uptoBulk d + 1
 end
def uptoSmall : (H : Type) → List (DataW H) → Bool := fun _ ds => decide (uptoBulkAll ds ≤ 1048576)
def OpenSpec.upto (s : _root_.Go.ChangeSpec) : _root_.Go.OpenSpec := { _root_.Go.OpenSpec.ofChange s with cond := some uptoSmall }

/-- 'speculumlaw20.ClockSets', WHERE WHAT IT READS IS OF BULK AT MOST 1048576: true; the input reads as it did. -/
def clockSetsUptoRow : OpenClaim := { program := "ytefnbmggokfanaa", sum := "b02305741738f0ae29ebd5d1e11c38e0b823118b8f3d244a41039034936b8553", func := "speculum/speculumlaw20.ClockSets", spec := "clockSets", apart := false, narrowed := true }
def ClockSetsUptoSaid : Prop := clockSetsUptoRow.holds Try.pinned (OpenSpec.upto clockSetsSpec)

/-- 'speculumlaw20.ClockTicks', WHERE WHAT IT READS IS OF BULK AT MOST 1048576: true; the input reads as it did. -/
def clockTicksUptoRow : OpenClaim := { program := "ytefnbmggokfanaa", sum := "b02305741738f0ae29ebd5d1e11c38e0b823118b8f3d244a41039034936b8553", func := "speculum/speculumlaw20.ClockTicks", spec := "clockTicks", apart := false, narrowed := true }
def ClockTicksUptoSaid : Prop := clockTicksUptoRow.holds Try.pinned (OpenSpec.upto clockTicksSpec)

/-- 'speculumlaw20.ClockSkips', WHERE WHAT IT READS IS OF BULK AT MOST 1048576: true; the input reads as it did. -/
def clockSkipsUptoRow : OpenClaim := { program := "ytefnbmggokfanaa", sum := "b02305741738f0ae29ebd5d1e11c38e0b823118b8f3d244a41039034936b8553", func := "speculum/speculumlaw20.ClockSkips", spec := "clockSkips", apart := false, narrowed := true }
def ClockSkipsUptoSaid : Prop := clockSkipsUptoRow.holds Try.pinned (OpenSpec.upto clockSkipsSpec)

/-- 'speculumlaw20.ClockFar', WHERE WHAT IT READS IS OF BULK AT MOST 1048576: true; the input reads as it did. -/
def clockFarUptoRow : OpenClaim := { program := "ytefnbmggokfanaa", sum := "b02305741738f0ae29ebd5d1e11c38e0b823118b8f3d244a41039034936b8553", func := "speculum/speculumlaw20.ClockFar", spec := "clockFar", apart := false, narrowed := true }
def ClockFarUptoSaid : Prop := clockFarUptoRow.holds Try.pinned (OpenSpec.upto clockFarSpec)

end Rows
end Go.Proofs.Ytefnbmggokfanaa
