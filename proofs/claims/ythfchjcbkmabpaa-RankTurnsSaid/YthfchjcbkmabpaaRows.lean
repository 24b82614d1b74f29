/-
  No cell of these rows narrows 'for every input' (looked for: loops, veiled, ifaces, maps, wideKeys, modest, calm, conditions, laid).
  DERIVED. THE GIVEN ROWS OF THIS SEAT. 5 by the template 'for every input the law returns true; each argument reads behind the call as it read before'; 0 by the template 'total and deterministic' (their statements: YthfchjcbkmabpaaTotals.lean).
  GIVEN WITH THE SEED: the statements are not yours to turn. If you find one false, say at which input.
  Laid BY PROGRAM, IN A SANDBOX (cutbox-rows.mjs): the forced cells as the released guide's own fill.sh prints them over the translation 8962d2c331cf77b7… (all of the seat's roots in one cut). By AI agents, Wed Nov 11 2026. No macro, syntax, notation, axiom, sorry.
-/
import Derived.Test.YthfchjcbkmabpaaChecked
import GoSem.Claim
import GoSem.ClaimJoined
import GoSem.ClaimMapViews
import Derived.JoinedTies
import Derived.KernelRfl
namespace Go.Proofs.Ythfchjcbkmabpaa
/- THE CELL 'sum', in the pinned program and in every row, IS THE sha256 OF THE DUMP (.gsa) THAT YthfchjcbkmabpaaProg.lean LOADS. Nothing in Lean hashes anything: it is a label: what it is worth is what the hold of that sum in a sandbox is worth. -/
noncomputable def Try.pinned : Pinned := { name := "ythfchjcbkmabpaa", sum := "8962d2c331cf77b7360c423038f9f40880740d88f6b2b8581d58793f350d0dd7", checked := Try.checked }
namespace Rows
def none {H : Type} : Left H := { results := [], args := [] }

/-- 'speculumlaw15.RankBest': WHATEVER THE INPUT: true; the input reads as it did. -/
def rankBestSpec : ChangeSpec := { name := "rankBest", fn := fun _ => fun
  | [d] => { results := [.lit (.bool true)], args := [d] }
  | _ => none }
def rankBestRow : OpenClaim := { program := "ythfchjcbkmabpaa", sum := "8962d2c331cf77b7360c423038f9f40880740d88f6b2b8581d58793f350d0dd7", func := "speculum/speculumlaw15.RankBest", spec := "rankBest", apart := false }
def RankBestSaid : Prop := rankBestRow.holds Try.pinned (OpenSpec.ofChange rankBestSpec)

/-- ITS FALSE NEIGHBOUR: 'it returns false'. Refute it at one input. -/
def rankBestWrong : ChangeSpec := { name := "rankBest", fn := fun _ => fun
  | [d] => { results := [.lit (.bool false)], args := [d] }
  | _ => none }
def RankBestWrongFalsely : Prop := rankBestRow.holds Try.pinned (OpenSpec.ofChange rankBestWrong)

/-- 'speculumlaw15.RankPairs': WHATEVER THE INPUT: true; the input reads as it did. -/
def rankPairsSpec : ChangeSpec := { name := "rankPairs", fn := fun _ => fun
  | [d1, d2] => { results := [.lit (.bool true)], args := [d1, d2] }
  | _ => none }
def rankPairsRow : OpenClaim := { program := "ythfchjcbkmabpaa", sum := "8962d2c331cf77b7360c423038f9f40880740d88f6b2b8581d58793f350d0dd7", func := "speculum/speculumlaw15.RankPairs", spec := "rankPairs", apart := false }
def RankPairsSaid : Prop := rankPairsRow.holds Try.pinned (OpenSpec.ofChange rankPairsSpec)

/-- ITS FALSE NEIGHBOUR: 'it returns false'. Refute it at one input. -/
def rankPairsWrong : ChangeSpec := { name := "rankPairs", fn := fun _ => fun
  | [d1, d2] => { results := [.lit (.bool false)], args := [d1, d2] }
  | _ => none }
def RankPairsWrongFalsely : Prop := rankPairsRow.holds Try.pinned (OpenSpec.ofChange rankPairsWrong)

/-- 'speculumlaw15.RankLeast': WHATEVER THE INPUT: true; the input reads as it did. -/
def rankLeastSpec : ChangeSpec := { name := "rankLeast", fn := fun _ => fun
  | [d] => { results := [.lit (.bool true)], args := [d] }
  | _ => none }
def rankLeastRow : OpenClaim := { program := "ythfchjcbkmabpaa", sum := "8962d2c331cf77b7360c423038f9f40880740d88f6b2b8581d58793f350d0dd7", func := "speculum/speculumlaw15.RankLeast", spec := "rankLeast", apart := false }
def RankLeastSaid : Prop := rankLeastRow.holds Try.pinned (OpenSpec.ofChange rankLeastSpec)

/-- ITS FALSE NEIGHBOUR: 'it returns false'. Refute it at one input. -/
def rankLeastWrong : ChangeSpec := { name := "rankLeast", fn := fun _ => fun
  | [d] => { results := [.lit (.bool false)], args := [d] }
  | _ => none }
def RankLeastWrongFalsely : Prop := rankLeastRow.holds Try.pinned (OpenSpec.ofChange rankLeastWrong)

/-- 'speculumlaw15.RankTurns': WHATEVER THE INPUT: true; the input reads as it did. -/
def rankTurnsSpec : ChangeSpec := { name := "rankTurns", fn := fun _ => fun
  | [d1, d2] => { results := [.lit (.bool true)], args := [d1, d2] }
  | _ => none }
def rankTurnsRow : OpenClaim := { program := "ythfchjcbkmabpaa", sum := "8962d2c331cf77b7360c423038f9f40880740d88f6b2b8581d58793f350d0dd7", func := "speculum/speculumlaw15.RankTurns", spec := "rankTurns", apart := false }
def RankTurnsSaid : Prop := rankTurnsRow.holds Try.pinned (OpenSpec.ofChange rankTurnsSpec)

/-- ITS FALSE NEIGHBOUR: 'it returns false'. Refute it at one input. -/
def rankTurnsWrong : ChangeSpec := { name := "rankTurns", fn := fun _ => fun
  | [d1, d2] => { results := [.lit (.bool false)], args := [d1, d2] }
  | _ => none }
def RankTurnsWrongFalsely : Prop := rankTurnsRow.holds Try.pinned (OpenSpec.ofChange rankTurnsWrong)

/-- 'speculumlaw15.RankOrder': WHATEVER THE INPUT: true; the input reads as it did. -/
def rankOrderSpec : ChangeSpec := { name := "rankOrder", fn := fun _ => fun
  | [d] => { results := [.lit (.bool true)], args := [d] }
  | _ => none }
def rankOrderRow : OpenClaim := { program := "ythfchjcbkmabpaa", sum := "8962d2c331cf77b7360c423038f9f40880740d88f6b2b8581d58793f350d0dd7", func := "speculum/speculumlaw15.RankOrder", spec := "rankOrder", apart := false }
def RankOrderSaid : Prop := rankOrderRow.holds Try.pinned (OpenSpec.ofChange rankOrderSpec)

/-- ITS FALSE NEIGHBOUR: 'it returns false'. Refute it at one input. -/
def rankOrderWrong : ChangeSpec := { name := "rankOrder", fn := fun _ => fun
  | [d] => { results := [.lit (.bool false)], args := [d] }
  | _ => none }
def RankOrderWrongFalsely : Prop := rankOrderRow.holds Try.pinned (OpenSpec.ofChange rankOrderWrong)

/- THE SECOND FORM. 'bulk': how many values and letters a reading holds, each counted each time it is reached (what is shared counts as often as it is met; a slice's spare places count too). A statement '..UptoSaid' is the law's where the arguments, and the package variables that the reading takes, are together of bulk at most 1048576: NARROWER than '..Said'. Prove '..Said' where nothing that the law and all that it calls make is longer than what came in: it says more and counts as full. Else prove '..UptoSaid'. A law counts once. -/
mutual
def uptoBulk {H : Type} : DataW H → Nat
  | .lit (.string bytes) => bytes.length + 1
  | .lit _ => 1
  | .nil => 1
  | .ptr d => uptoBulk d + 1
  | .slice elems spare => uptoBulkAll elems + uptoBulkAll spare + 1
  | .agg parts => uptoBulkAll parts + 1
  | .iface _ d => uptoBulk d + 1
  | .map entries => uptoBulkEntries entries + 1
  | .held _ => 1
def uptoBulkAll {H : Type} : List (DataW H) → Nat
  | [] => 0
  | d :: r => uptoBulk d + uptoBulkAll r
def uptoBulkEntries {H : Type} : List (Lit × DataW H) → Nat
  | [] => 0
  | x :: r => uptoBulkEntry x + uptoBulkEntries r
def uptoBulkEntry {H : Type} : Lit × DataW H → Nat
  | (.string bytes, d) => bytes.length + uptoBulk d + 1
  | (_, d) => uptoBulk d + 1
 end
def uptoSmall : (H : Type) → List (DataW H) → Bool := fun _ ds => decide (uptoBulkAll ds ≤ 1048576)
def OpenSpec.upto (s : _root_.Go.ChangeSpec) : _root_.Go.OpenSpec := { _root_.Go.OpenSpec.ofChange s with cond := some uptoSmall }

/-- 'speculumlaw15.RankBest', WHERE WHAT IT READS IS OF BULK AT MOST 1048576: true; the input reads as it did. -/
def rankBestUptoRow : OpenClaim := { program := "ythfchjcbkmabpaa", sum := "8962d2c331cf77b7360c423038f9f40880740d88f6b2b8581d58793f350d0dd7", func := "speculum/speculumlaw15.RankBest", spec := "rankBest", apart := false, narrowed := true }
def RankBestUptoSaid : Prop := rankBestUptoRow.holds Try.pinned (OpenSpec.upto rankBestSpec)

/-- 'speculumlaw15.RankPairs', WHERE WHAT IT READS IS OF BULK AT MOST 1048576: true; the input reads as it did. -/
def rankPairsUptoRow : OpenClaim := { program := "ythfchjcbkmabpaa", sum := "8962d2c331cf77b7360c423038f9f40880740d88f6b2b8581d58793f350d0dd7", func := "speculum/speculumlaw15.RankPairs", spec := "rankPairs", apart := false, narrowed := true }
def RankPairsUptoSaid : Prop := rankPairsUptoRow.holds Try.pinned (OpenSpec.upto rankPairsSpec)

/-- 'speculumlaw15.RankLeast', WHERE WHAT IT READS IS OF BULK AT MOST 1048576: true; the input reads as it did. -/
def rankLeastUptoRow : OpenClaim := { program := "ythfchjcbkmabpaa", sum := "8962d2c331cf77b7360c423038f9f40880740d88f6b2b8581d58793f350d0dd7", func := "speculum/speculumlaw15.RankLeast", spec := "rankLeast", apart := false, narrowed := true }
def RankLeastUptoSaid : Prop := rankLeastUptoRow.holds Try.pinned (OpenSpec.upto rankLeastSpec)

/-- 'speculumlaw15.RankTurns', WHERE WHAT IT READS IS OF BULK AT MOST 1048576: true; the input reads as it did. -/
def rankTurnsUptoRow : OpenClaim := { program := "ythfchjcbkmabpaa", sum := "8962d2c331cf77b7360c423038f9f40880740d88f6b2b8581d58793f350d0dd7", func := "speculum/speculumlaw15.RankTurns", spec := "rankTurns", apart := false, narrowed := true }
def RankTurnsUptoSaid : Prop := rankTurnsUptoRow.holds Try.pinned (OpenSpec.upto rankTurnsSpec)

/-- 'speculumlaw15.RankOrder', WHERE WHAT IT READS IS OF BULK AT MOST 1048576: true; the input reads as it did. -/
def rankOrderUptoRow : OpenClaim := { program := "ythfchjcbkmabpaa", sum := "8962d2c331cf77b7360c423038f9f40880740d88f6b2b8581d58793f350d0dd7", func := "speculum/speculumlaw15.RankOrder", spec := "rankOrder", apart := false, narrowed := true }
def RankOrderUptoSaid : Prop := rankOrderUptoRow.holds Try.pinned (OpenSpec.upto rankOrderSpec)

end Rows
end Go.Proofs.Ythfchjcbkmabpaa
