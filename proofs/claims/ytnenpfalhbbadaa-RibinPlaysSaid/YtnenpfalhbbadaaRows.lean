/-
  No cell of these rows narrows 'for every input' (looked for: loops, veiled, ifaces, maps, wideKeys, modest, calm, conditions, laid).
  DERIVED. THE GIVEN ROWS OF THIS SEAT. 4 by the template 'for every input the law returns true; each argument reads behind the call as it read before'; 0 by the template 'total and deterministic' (their statements: YtnenpfalhbbadaaTotals.lean).
  GIVEN WITH THE SEED: the statements are not yours to turn. If you find one false, say at which input.
  Laid BY PROGRAM, IN A SANDBOX (cutbox-rows.mjs): the forced cells as the released guide's own fill.sh prints them over the translation beb33c9e6f4a7b9c… (all of the seat's roots in one cut). By AI agents, Wed Nov 11 2026. No macro, syntax, notation, axiom, sorry.
-/
import Derived.Test.YtnenpfalhbbadaaChecked
import GoSem.Claim
import GoSem.ClaimJoined
import GoSem.ClaimMapViews
import Derived.JoinedTies
import Derived.KernelRfl
namespace Go.Proofs.Ytnenpfalhbbadaa
/- THE CELL 'sum', in the pinned program and in every row, IS THE sha256 OF THE DUMP (.gsa) THAT YtnenpfalhbbadaaProg.lean LOADS. Nothing in Lean hashes anything: it is a label: what it is worth is what the hold of that sum in a sandbox is worth. -/
noncomputable def Try.pinned : Pinned := { name := "ytnenpfalhbbadaa", sum := "beb33c9e6f4a7b9cfa3ba0a8ae6f73df4e6d21dac47659009845160cb15390c6", checked := Try.checked }
namespace Rows
def none {H : Type} : Left H := { results := [], args := [] }

/-- 'speculumlaw16.RibinBounds': WHATEVER THE INPUT: true; the input reads as it did. -/
def ribinBoundsSpec : ChangeSpec := { name := "ribinBounds", fn := fun _ => fun
  | [d1, d2] => { results := [.lit (.bool true)], args := [d1, d2] }
  | _ => none }
def ribinBoundsRow : OpenClaim := { program := "ytnenpfalhbbadaa", sum := "beb33c9e6f4a7b9cfa3ba0a8ae6f73df4e6d21dac47659009845160cb15390c6", func := "speculum/speculumlaw16.RibinBounds", spec := "ribinBounds", unfollowed := true, recurses := true, apart := false }
def RibinBoundsSaid : Prop := ribinBoundsRow.holds Try.pinned (OpenSpec.ofChange ribinBoundsSpec)

/-- ITS FALSE NEIGHBOUR: 'it returns false'. Refute it at one input. -/
def ribinBoundsWrong : ChangeSpec := { name := "ribinBounds", fn := fun _ => fun
  | [d1, d2] => { results := [.lit (.bool false)], args := [d1, d2] }
  | _ => none }
def RibinBoundsWrongFalsely : Prop := ribinBoundsRow.holds Try.pinned (OpenSpec.ofChange ribinBoundsWrong)

/-- 'speculumlaw16.RibinNobody': WHATEVER THE INPUT: true; the input reads as it did. -/
def ribinNobodySpec : ChangeSpec := { name := "ribinNobody", fn := fun _ => fun
  | [d1, d2] => { results := [.lit (.bool true)], args := [d1, d2] }
  | _ => none }
def ribinNobodyRow : OpenClaim := { program := "ytnenpfalhbbadaa", sum := "beb33c9e6f4a7b9cfa3ba0a8ae6f73df4e6d21dac47659009845160cb15390c6", func := "speculum/speculumlaw16.RibinNobody", spec := "ribinNobody", unfollowed := true, recurses := true, apart := false }
def RibinNobodySaid : Prop := ribinNobodyRow.holds Try.pinned (OpenSpec.ofChange ribinNobodySpec)

/-- ITS FALSE NEIGHBOUR: 'it returns false'. Refute it at one input. -/
def ribinNobodyWrong : ChangeSpec := { name := "ribinNobody", fn := fun _ => fun
  | [d1, d2] => { results := [.lit (.bool false)], args := [d1, d2] }
  | _ => none }
def RibinNobodyWrongFalsely : Prop := ribinNobodyRow.holds Try.pinned (OpenSpec.ofChange ribinNobodyWrong)

/-- 'speculumlaw16.RibinTells': WHATEVER THE INPUT: true; the input reads as it did. -/
def ribinTellsSpec : ChangeSpec := { name := "ribinTells", fn := fun _ => fun
  | [d1, d2, d3] => { results := [.lit (.bool true)], args := [d1, d2, d3] }
  | _ => none }
def ribinTellsRow : OpenClaim := { program := "ytnenpfalhbbadaa", sum := "beb33c9e6f4a7b9cfa3ba0a8ae6f73df4e6d21dac47659009845160cb15390c6", func := "speculum/speculumlaw16.RibinTells", spec := "ribinTells", unfollowed := true, recurses := true, apart := false }
def RibinTellsSaid : Prop := ribinTellsRow.holds Try.pinned (OpenSpec.ofChange ribinTellsSpec)

/-- ITS FALSE NEIGHBOUR: 'it returns false'. Refute it at one input. -/
def ribinTellsWrong : ChangeSpec := { name := "ribinTells", fn := fun _ => fun
  | [d1, d2, d3] => { results := [.lit (.bool false)], args := [d1, d2, d3] }
  | _ => none }
def RibinTellsWrongFalsely : Prop := ribinTellsRow.holds Try.pinned (OpenSpec.ofChange ribinTellsWrong)

/-- 'speculumlaw16.RibinPlays': WHATEVER THE INPUT: true; the input reads as it did. -/
def ribinPlaysSpec : ChangeSpec := { name := "ribinPlays", fn := fun _ => fun
  | [d1, d2] => { results := [.lit (.bool true)], args := [d1, d2] }
  | _ => none }
def ribinPlaysRow : OpenClaim := { program := "ytnenpfalhbbadaa", sum := "beb33c9e6f4a7b9cfa3ba0a8ae6f73df4e6d21dac47659009845160cb15390c6", func := "speculum/speculumlaw16.RibinPlays", spec := "ribinPlays", unfollowed := true, recurses := true, apart := false }
def RibinPlaysSaid : Prop := ribinPlaysRow.holds Try.pinned (OpenSpec.ofChange ribinPlaysSpec)

/-- ITS FALSE NEIGHBOUR: 'it returns false'. Refute it at one input. -/
def ribinPlaysWrong : ChangeSpec := { name := "ribinPlays", fn := fun _ => fun
  | [d1, d2] => { results := [.lit (.bool false)], args := [d1, d2] }
  | _ => none }
def RibinPlaysWrongFalsely : Prop := ribinPlaysRow.holds Try.pinned (OpenSpec.ofChange ribinPlaysWrong)

/- THE SECOND FORM. 'bulk': how many values and letters a reading holds, each counted each time it is reached (what is shared counts as often as it is met; a slice's spare places count too). A statement '..UptoSaid' is the law's where the arguments, and the package variables that the reading takes, are together of bulk at most 1048576: NARROWER than '..Said'. Prove '..Said' where nothing that the law and all that it calls make is longer than what came in: it says more and counts as full. Else prove '..UptoSaid'. A law counts once. -/
mutual
def uptoBulk {H : Type} : DataW H → Nat
  | .lit (.string bytes) => bytes.length + 1
  | .lit _ => 1
  | .nil => 1
  | .ptr d => uptoBulk d + 1
  | .slice elems spare => uptoBulkAll elems + uptoBulkAll spare + 1
  | .agg parts => uptoBulkAll parts + 1
  | .iface _ d => uptoBulk d + 1
  | .map entries => uptoBulkEntries entries + 1
  | .held _ => 1
def uptoBulkAll {H : Type} : List (DataW H) → Nat
  | [] => 0
  | d :: r => uptoBulk d + uptoBulkAll r
def uptoBulkEntries {H : Type} : List (Lit × DataW H) → Nat
  | [] => 0
  | x :: r => uptoBulkEntry x + uptoBulkEntries r
def uptoBulkEntry {H : Type} : Lit × DataW H → Nat
  | (.string bytes, d) => bytes.length + uptoBulk d + 1
  | (_, d) => uptoBulk d + 1
 end
def uptoSmall : (H : Type) → List (DataW H) → Bool := fun _ ds => decide (uptoBulkAll ds ≤ 1048576)
def OpenSpec.upto (s : _root_.Go.ChangeSpec) : _root_.Go.OpenSpec := { _root_.Go.OpenSpec.ofChange s with cond := some uptoSmall }

/-- 'speculumlaw16.RibinBounds', WHERE WHAT IT READS IS OF BULK AT MOST 1048576: true; the input reads as it did. -/
def ribinBoundsUptoRow : OpenClaim := { program := "ytnenpfalhbbadaa", sum := "beb33c9e6f4a7b9cfa3ba0a8ae6f73df4e6d21dac47659009845160cb15390c6", func := "speculum/speculumlaw16.RibinBounds", spec := "ribinBounds", unfollowed := true, recurses := true, apart := false, narrowed := true }
def RibinBoundsUptoSaid : Prop := ribinBoundsUptoRow.holds Try.pinned (OpenSpec.upto ribinBoundsSpec)

/-- 'speculumlaw16.RibinNobody', WHERE WHAT IT READS IS OF BULK AT MOST 1048576: true; the input reads as it did. -/
def ribinNobodyUptoRow : OpenClaim := { program := "ytnenpfalhbbadaa", sum := "beb33c9e6f4a7b9cfa3ba0a8ae6f73df4e6d21dac47659009845160cb15390c6", func := "speculum/speculumlaw16.RibinNobody", spec := "ribinNobody", unfollowed := true, recurses := true, apart := false, narrowed := true }
def RibinNobodyUptoSaid : Prop := ribinNobodyUptoRow.holds Try.pinned (OpenSpec.upto ribinNobodySpec)

/-- 'speculumlaw16.RibinTells', WHERE WHAT IT READS IS OF BULK AT MOST 1048576: true; the input reads as it did. -/
def ribinTellsUptoRow : OpenClaim := { program := "ytnenpfalhbbadaa", sum := "beb33c9e6f4a7b9cfa3ba0a8ae6f73df4e6d21dac47659009845160cb15390c6", func := "speculum/speculumlaw16.RibinTells", spec := "ribinTells", unfollowed := true, recurses := true, apart := false, narrowed := true }
def RibinTellsUptoSaid : Prop := ribinTellsUptoRow.holds Try.pinned (OpenSpec.upto ribinTellsSpec)

/-- 'speculumlaw16.RibinPlays', WHERE WHAT IT READS IS OF BULK AT MOST 1048576: true; the input reads as it did. -/
def ribinPlaysUptoRow : OpenClaim := { program := "ytnenpfalhbbadaa", sum := "beb33c9e6f4a7b9cfa3ba0a8ae6f73df4e6d21dac47659009845160cb15390c6", func := "speculum/speculumlaw16.RibinPlays", spec := "ribinPlays", unfollowed := true, recurses := true, apart := false, narrowed := true }
def RibinPlaysUptoSaid : Prop := ribinPlaysUptoRow.holds Try.pinned (OpenSpec.upto ribinPlaysSpec)

end Rows
end Go.Proofs.Ytnenpfalhbbadaa
