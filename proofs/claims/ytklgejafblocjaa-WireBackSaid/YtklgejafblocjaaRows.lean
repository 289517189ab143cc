/-
  No cell of these rows narrows 'for every input' (looked for: loops, veiled, ifaces, maps, wideKeys, modest, calm, conditions, laid).
  DERIVED. THE GIVEN ROWS OF THIS SEAT. 6 by the template 'for every input the law returns true; each argument reads behind the call as it read before'; 0 by the template 'total and deterministic' (their statements: YtklgejafblocjaaTotals.lean).
  GIVEN WITH THE SEED: the statements are not yours to turn. If you find one false, say at which input.
  Laid BY PROGRAM, IN A SANDBOX (cutbox-rows.mjs): the forced cells as the released guide's own fill.sh prints them over the translation 1880e2e06ba8d9f3… (all of the seat's roots in one cut). By AI agents, Wed Nov 11 2026. No macro, syntax, notation, axiom, sorry.
-/
import Derived.Test.YtklgejafblocjaaChecked
import GoSem.Claim
import GoSem.ClaimJoined
import GoSem.ClaimMapViews
import Derived.JoinedTies
import Derived.KernelRfl
namespace Go.Proofs.Ytklgejafblocjaa
/- THE CELL 'sum', in the pinned program and in every row, IS THE sha256 OF THE DUMP (.gsa) THAT YtklgejafblocjaaProg.lean LOADS. Nothing in Lean hashes anything: it is a label: what it is worth is what the hold of that sum in a sandbox is worth. -/
noncomputable def Try.pinned : Pinned := { name := "ytklgejafblocjaa", sum := "1880e2e06ba8d9f3fb45d86887f4b324736b6d06aabe1d6f88455c3108b28d80", checked := Try.checked }
namespace Rows
def none {H : Type} : Left H := { results := [], args := [] }

/-- 'pleachlaw.DagTells': WHATEVER THE INPUT: true; the input reads as it did. -/
def dagTellsSpec : ChangeSpec := { name := "dagTells", fn := fun _ => fun
  | [d1, d2] => { results := [.lit (.bool true)], args := [d1, d2] }
  | _ => none }
def dagTellsRow : OpenClaim := { program := "ytklgejafblocjaa", sum := "1880e2e06ba8d9f3fb45d86887f4b324736b6d06aabe1d6f88455c3108b28d80", func := "pleach/pleachlaw.DagTells", spec := "dagTells", recurses := true, apart := false }
def DagTellsSaid : Prop := dagTellsRow.holds Try.pinned (OpenSpec.ofChange dagTellsSpec)

/-- ITS FALSE NEIGHBOUR: 'it returns false'. Refute it at one input. -/
def dagTellsWrong : ChangeSpec := { name := "dagTells", fn := fun _ => fun
  | [d1, d2] => { results := [.lit (.bool false)], args := [d1, d2] }
  | _ => none }
def DagTellsWrongFalsely : Prop := dagTellsRow.holds Try.pinned (OpenSpec.ofChange dagTellsWrong)

/-- 'pleachlaw.DagBases': WHATEVER THE INPUT: true; the input reads as it did. -/
def dagBasesSpec : ChangeSpec := { name := "dagBases", fn := fun _ => fun
  | [d1, d2, d3] => { results := [.lit (.bool true)], args := [d1, d2, d3] }
  | _ => none }
def dagBasesRow : OpenClaim := { program := "ytklgejafblocjaa", sum := "1880e2e06ba8d9f3fb45d86887f4b324736b6d06aabe1d6f88455c3108b28d80", func := "pleach/pleachlaw.DagBases", spec := "dagBases", recurses := true, apart := false }
def DagBasesSaid : Prop := dagBasesRow.holds Try.pinned (OpenSpec.ofChange dagBasesSpec)

/-- ITS FALSE NEIGHBOUR: 'it returns false'. Refute it at one input. -/
def dagBasesWrong : ChangeSpec := { name := "dagBases", fn := fun _ => fun
  | [d1, d2, d3] => { results := [.lit (.bool false)], args := [d1, d2, d3] }
  | _ => none }
def DagBasesWrongFalsely : Prop := dagBasesRow.holds Try.pinned (OpenSpec.ofChange dagBasesWrong)

/-- 'pleachlaw.DagTrue': WHATEVER THE INPUT: true; the input reads as it did. -/
def dagTrueSpec : ChangeSpec := { name := "dagTrue", fn := fun _ => fun
  | [d1, d2, d3, d4] => { results := [.lit (.bool true)], args := [d1, d2, d3, d4] }
  | _ => none }
def dagTrueRow : OpenClaim := { program := "ytklgejafblocjaa", sum := "1880e2e06ba8d9f3fb45d86887f4b324736b6d06aabe1d6f88455c3108b28d80", func := "pleach/pleachlaw.DagTrue", spec := "dagTrue", recurses := true, apart := false }
def DagTrueSaid : Prop := dagTrueRow.holds Try.pinned (OpenSpec.ofChange dagTrueSpec)

/-- ITS FALSE NEIGHBOUR: 'it returns false'. Refute it at one input. -/
def dagTrueWrong : ChangeSpec := { name := "dagTrue", fn := fun _ => fun
  | [d1, d2, d3, d4] => { results := [.lit (.bool false)], args := [d1, d2, d3, d4] }
  | _ => none }
def DagTrueWrongFalsely : Prop := dagTrueRow.holds Try.pinned (OpenSpec.ofChange dagTrueWrong)

/-- 'pleachlaw.WireWrites': WHATEVER THE INPUT: true; the input reads as it did. -/
def wireWritesSpec : ChangeSpec := { name := "wireWrites", fn := fun _ => fun
  | [d1, d2] => { results := [.lit (.bool true)], args := [d1, d2] }
  | _ => none }
def wireWritesRow : OpenClaim := { program := "ytklgejafblocjaa", sum := "1880e2e06ba8d9f3fb45d86887f4b324736b6d06aabe1d6f88455c3108b28d80", func := "pleach/pleachlaw.WireWrites", spec := "wireWrites", unfollowed := true, recurses := true, apart := false }
def WireWritesSaid : Prop := wireWritesRow.holds Try.pinned (OpenSpec.ofChange wireWritesSpec)

/-- ITS FALSE NEIGHBOUR: 'it returns false'. Refute it at one input. -/
def wireWritesWrong : ChangeSpec := { name := "wireWrites", fn := fun _ => fun
  | [d1, d2] => { results := [.lit (.bool false)], args := [d1, d2] }
  | _ => none }
def WireWritesWrongFalsely : Prop := wireWritesRow.holds Try.pinned (OpenSpec.ofChange wireWritesWrong)

/-- 'pleachlaw.WireBack': WHATEVER THE INPUT: true; the input reads as it did. -/
def wireBackSpec : ChangeSpec := { name := "wireBack", fn := fun _ => fun
  | [d1, d2] => { results := [.lit (.bool true)], args := [d1, d2] }
  | _ => none }
def wireBackRow : OpenClaim := { program := "ytklgejafblocjaa", sum := "1880e2e06ba8d9f3fb45d86887f4b324736b6d06aabe1d6f88455c3108b28d80", func := "pleach/pleachlaw.WireBack", spec := "wireBack", unfollowed := true, recurses := true, apart := false }
def WireBackSaid : Prop := wireBackRow.holds Try.pinned (OpenSpec.ofChange wireBackSpec)

/-- ITS FALSE NEIGHBOUR: 'it returns false'. Refute it at one input. -/
def wireBackWrong : ChangeSpec := { name := "wireBack", fn := fun _ => fun
  | [d1, d2] => { results := [.lit (.bool false)], args := [d1, d2] }
  | _ => none }
def WireBackWrongFalsely : Prop := wireBackRow.holds Try.pinned (OpenSpec.ofChange wireBackWrong)

/-- 'pleachlaw.RepoTells': WHATEVER THE INPUT: true; the input reads as it did. -/
def repoTellsSpec : ChangeSpec := { name := "repoTells", fn := fun _ => fun
  | [d1, d2] => { results := [.lit (.bool true)], args := [d1, d2] }
  | _ => none }
def repoTellsRow : OpenClaim := { program := "ytklgejafblocjaa", sum := "1880e2e06ba8d9f3fb45d86887f4b324736b6d06aabe1d6f88455c3108b28d80", func := "pleach/pleachlaw.RepoTells", spec := "repoTells", unfollowed := true, recurses := true, apart := false }
def RepoTellsSaid : Prop := repoTellsRow.holds Try.pinned (OpenSpec.ofChange repoTellsSpec)

/-- ITS FALSE NEIGHBOUR: 'it returns false'. Refute it at one input. -/
def repoTellsWrong : ChangeSpec := { name := "repoTells", fn := fun _ => fun
  | [d1, d2] => { results := [.lit (.bool false)], args := [d1, d2] }
  | _ => none }
def RepoTellsWrongFalsely : Prop := repoTellsRow.holds Try.pinned (OpenSpec.ofChange repoTellsWrong)

/- THE SECOND FORM. 'bulk': how many values and letters a reading holds, each counted each time it is reached (what is shared counts as often as it is met; a slice's spare places count too). A statement '..UptoSaid' is the law's where the arguments, and the package variables that the reading takes, are together of bulk at most 1048576: NARROWER than '..Said'. Prove '..Said' where nothing that the law and all that it calls make is longer than what came in: it says more and counts as full. Else prove '..UptoSaid'. A law counts once. -/
mutual
def uptoBulk {H : Type} : DataW H → Nat
  | .lit (.string bytes) => bytes.length + 1
  | .lit _ => 1
  | .nil => 1
  | .ptr d => uptoBulk d + 1
  | .slice elems spare => uptoBulkAll elems + uptoBulkAll spare + 1
  | .agg parts => uptoBulkAll parts + 1
  | .iface _ d => uptoBulk d + 1
  | .map entries => uptoBulkEntries entries + 1
  | .held _ => 1
def uptoBulkAll {H : Type} : List (DataW H) → Nat
  | [] => 0
  | d :: r => uptoBulk d + uptoBulkAll r
def uptoBulkEntries {H : Type} : List (Lit × DataW H) → Nat
  | [] => 0
  | x :: r => uptoBulkEntry x + uptoBulkEntries r
def uptoBulkEntry {H : Type} : Lit × DataW H → Nat
  | (.string bytes, d) => bytes.length + uptoBulk d + 1
  | (_, d) => uptoBulk d + 1
 end
def uptoSmall : (H : Type) → List (DataW H) → Bool := fun _ ds => decide (uptoBulkAll ds ≤ 1048576)
def OpenSpec.upto (s : _root_.Go.ChangeSpec) : _root_.Go.OpenSpec := { _root_.Go.OpenSpec.ofChange s with cond := some uptoSmall }

/-- 'pleachlaw.DagTells', WHERE WHAT IT READS IS OF BULK AT MOST 1048576: true; the input reads as it did. -/
def dagTellsUptoRow : OpenClaim := { program := "ytklgejafblocjaa", sum := "1880e2e06ba8d9f3fb45d86887f4b324736b6d06aabe1d6f88455c3108b28d80", func := "pleach/pleachlaw.DagTells", spec := "dagTells", recurses := true, apart := false, narrowed := true }
def DagTellsUptoSaid : Prop := dagTellsUptoRow.holds Try.pinned (OpenSpec.upto dagTellsSpec)

/-- 'pleachlaw.DagBases', WHERE WHAT IT READS IS OF BULK AT MOST 1048576: true; the input reads as it did. -/
def dagBasesUptoRow : OpenClaim := { program := "ytklgejafblocjaa", sum := "1880e2e06ba8d9f3fb45d86887f4b324736b6d06aabe1d6f88455c3108b28d80", func := "pleach/pleachlaw.DagBases", spec := "dagBases", recurses := true, apart := false, narrowed := true }
def DagBasesUptoSaid : Prop := dagBasesUptoRow.holds Try.pinned (OpenSpec.upto dagBasesSpec)

/-- 'pleachlaw.DagTrue', WHERE WHAT IT READS IS OF BULK AT MOST 1048576: true; the input reads as it did. -/
def dagTrueUptoRow : OpenClaim := { program := "ytklgejafblocjaa", sum := "1880e2e06ba8d9f3fb45d86887f4b324736b6d06aabe1d6f88455c3108b28d80", func := "pleach/pleachlaw.DagTrue", spec := "dagTrue", recurses := true, apart := false, narrowed := true }
def DagTrueUptoSaid : Prop := dagTrueUptoRow.holds Try.pinned (OpenSpec.upto dagTrueSpec)

/-- 'pleachlaw.WireWrites', WHERE WHAT IT READS IS OF BULK AT MOST 1048576: true; the input reads as it did. -/
def wireWritesUptoRow : OpenClaim := { program := "ytklgejafblocjaa", sum := "1880e2e06ba8d9f3fb45d86887f4b324736b6d06aabe1d6f88455c3108b28d80", func := "pleach/pleachlaw.WireWrites", spec := "wireWrites", unfollowed := true, recurses := true, apart := false, narrowed := true }
def WireWritesUptoSaid : Prop := wireWritesUptoRow.holds Try.pinned (OpenSpec.upto wireWritesSpec)

/-- 'pleachlaw.WireBack', WHERE WHAT IT READS IS OF BULK AT MOST 1048576: true; the input reads as it did. -/
def wireBackUptoRow : OpenClaim := { program := "ytklgejafblocjaa", sum := "1880e2e06ba8d9f3fb45d86887f4b324736b6d06aabe1d6f88455c3108b28d80", func := "pleach/pleachlaw.WireBack", spec := "wireBack", unfollowed := true, recurses := true, apart := false, narrowed := true }
def WireBackUptoSaid : Prop := wireBackUptoRow.holds Try.pinned (OpenSpec.upto wireBackSpec)

/-- 'pleachlaw.RepoTells', WHERE WHAT IT READS IS OF BULK AT MOST 1048576: true; the input reads as it did. -/
def repoTellsUptoRow : OpenClaim := { program := "ytklgejafblocjaa", sum := "1880e2e06ba8d9f3fb45d86887f4b324736b6d06aabe1d6f88455c3108b28d80", func := "pleach/pleachlaw.RepoTells", spec := "repoTells", unfollowed := true, recurses := true, apart := false, narrowed := true }
def RepoTellsUptoSaid : Prop := repoTellsUptoRow.holds Try.pinned (OpenSpec.upto repoTellsSpec)

end Rows
end Go.Proofs.Ytklgejafblocjaa
