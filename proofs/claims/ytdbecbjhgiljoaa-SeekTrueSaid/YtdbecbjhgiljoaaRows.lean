/-
  No cell of these rows narrows 'for every input' (looked for: loops, veiled, ifaces, maps, wideKeys, modest, calm, conditions, laid).
  DERIVED. THE GIVEN ROWS OF THIS SEAT. 12 by the template 'for every input the law returns true; each argument reads behind the call as it read before'; 0 by the template 'total and deterministic' (their statements: YtdbecbjhgiljoaaTotals.lean).
  GIVEN WITH THE SEED: the statements are not yours to turn. If you find one false, say at which input.
  Laid BY PROGRAM, IN A SANDBOX (cutbox-rows.mjs): the forced cells as the released guide's own fill.sh prints them over the translation 4decde068f5ec926… (all of the seat's roots in one cut). By AI agents, Wed Nov 11 2026. No macro, syntax, notation, axiom, sorry.
-/
import Derived.Test.YtdbecbjhgiljoaaChecked
import GoSem.Claim
import GoSem.ClaimJoined
import GoSem.ClaimMapViews
import Derived.JoinedTies
import Derived.KernelRfl
namespace Go.Proofs.Ytdbecbjhgiljoaa
/- THE CELL 'sum', in the pinned program and in every row, IS THE sha256 OF THE DUMP (.gsa) THAT YtdbecbjhgiljoaaProg.lean LOADS. Nothing in Lean hashes anything: it is a label: what it is worth is what the hold of that sum in a sandbox is worth. -/
noncomputable def Try.pinned : Pinned := { name := "ytdbecbjhgiljoaa", sum := "4decde068f5ec926f915b17ec9a69a61fc4a5e04d28ca3fd5de0d71c65491970", checked := Try.checked }
namespace Rows
def none {H : Type} : Left H := { results := [], args := [] }

/-- 'pleachlaw.ChunkCuts': WHATEVER THE INPUT: true; the input reads as it did. -/
def chunkCutsSpec : ChangeSpec := { name := "chunkCuts", fn := fun _ => fun
  | [d1, d2] => { results := [.lit (.bool true)], args := [d1, d2] }
  | _ => none }
def chunkCutsRow : OpenClaim := { program := "ytdbecbjhgiljoaa", sum := "4decde068f5ec926f915b17ec9a69a61fc4a5e04d28ca3fd5de0d71c65491970", func := "pleach/pleachlaw.ChunkCuts", spec := "chunkCuts", unfollowed := true, recurses := true, apart := false }
def ChunkCutsSaid : Prop := chunkCutsRow.holds Try.pinned (OpenSpec.ofChange chunkCutsSpec)

/-- ITS FALSE NEIGHBOUR: 'it returns false'. Refute it at one input. -/
def chunkCutsWrong : ChangeSpec := { name := "chunkCuts", fn := fun _ => fun
  | [d1, d2] => { results := [.lit (.bool false)], args := [d1, d2] }
  | _ => none }
def ChunkCutsWrongFalsely : Prop := chunkCutsRow.holds Try.pinned (OpenSpec.ofChange chunkCutsWrong)

/-- 'pleachlaw.ChunkSums': WHATEVER THE INPUT: true; the input reads as it did. -/
def chunkSumsSpec : ChangeSpec := { name := "chunkSums", fn := fun _ => fun
  | [d1, d2, d3] => { results := [.lit (.bool true)], args := [d1, d2, d3] }
  | _ => none }
def chunkSumsRow : OpenClaim := { program := "ytdbecbjhgiljoaa", sum := "4decde068f5ec926f915b17ec9a69a61fc4a5e04d28ca3fd5de0d71c65491970", func := "pleach/pleachlaw.ChunkSums", spec := "chunkSums", unfollowed := true, recurses := true, apart := false }
def ChunkSumsSaid : Prop := chunkSumsRow.holds Try.pinned (OpenSpec.ofChange chunkSumsSpec)

/-- ITS FALSE NEIGHBOUR: 'it returns false'. Refute it at one input. -/
def chunkSumsWrong : ChangeSpec := { name := "chunkSums", fn := fun _ => fun
  | [d1, d2, d3] => { results := [.lit (.bool false)], args := [d1, d2, d3] }
  | _ => none }
def ChunkSumsWrongFalsely : Prop := chunkSumsRow.holds Try.pinned (OpenSpec.ofChange chunkSumsWrong)

/-- 'pleachlaw.ChunkTrue': WHATEVER THE INPUT: true; the input reads as it did. -/
def chunkTrueSpec : ChangeSpec := { name := "chunkTrue", fn := fun _ => fun
  | [d1, d2, d3] => { results := [.lit (.bool true)], args := [d1, d2, d3] }
  | _ => none }
def chunkTrueRow : OpenClaim := { program := "ytdbecbjhgiljoaa", sum := "4decde068f5ec926f915b17ec9a69a61fc4a5e04d28ca3fd5de0d71c65491970", func := "pleach/pleachlaw.ChunkTrue", spec := "chunkTrue", unfollowed := true, recurses := true, apart := false }
def ChunkTrueSaid : Prop := chunkTrueRow.holds Try.pinned (OpenSpec.ofChange chunkTrueSpec)

/-- ITS FALSE NEIGHBOUR: 'it returns false'. Refute it at one input. -/
def chunkTrueWrong : ChangeSpec := { name := "chunkTrue", fn := fun _ => fun
  | [d1, d2, d3] => { results := [.lit (.bool false)], args := [d1, d2, d3] }
  | _ => none }
def ChunkTrueWrongFalsely : Prop := chunkTrueRow.holds Try.pinned (OpenSpec.ofChange chunkTrueWrong)

/-- 'pleachlaw.TreeBuilds': WHATEVER THE INPUT: true; the input reads as it did. -/
def treeBuildsSpec : ChangeSpec := { name := "treeBuilds", fn := fun _ => fun
  | [d] => { results := [.lit (.bool true)], args := [d] }
  | _ => none }
def treeBuildsRow : OpenClaim := { program := "ytdbecbjhgiljoaa", sum := "4decde068f5ec926f915b17ec9a69a61fc4a5e04d28ca3fd5de0d71c65491970", func := "pleach/pleachlaw.TreeBuilds", spec := "treeBuilds", unfollowed := true, recurses := true, apart := false }
def TreeBuildsSaid : Prop := treeBuildsRow.holds Try.pinned (OpenSpec.ofChange treeBuildsSpec)

/-- ITS FALSE NEIGHBOUR: 'it returns false'. Refute it at one input. -/
def treeBuildsWrong : ChangeSpec := { name := "treeBuilds", fn := fun _ => fun
  | [d] => { results := [.lit (.bool false)], args := [d] }
  | _ => none }
def TreeBuildsWrongFalsely : Prop := treeBuildsRow.holds Try.pinned (OpenSpec.ofChange treeBuildsWrong)

/-- 'pleachlaw.TreeTells': WHATEVER THE INPUT: true; the input reads as it did. -/
def treeTellsSpec : ChangeSpec := { name := "treeTells", fn := fun _ => fun
  | [d] => { results := [.lit (.bool true)], args := [d] }
  | _ => none }
def treeTellsRow : OpenClaim := { program := "ytdbecbjhgiljoaa", sum := "4decde068f5ec926f915b17ec9a69a61fc4a5e04d28ca3fd5de0d71c65491970", func := "pleach/pleachlaw.TreeTells", spec := "treeTells", unfollowed := true, recurses := true, apart := false }
def TreeTellsSaid : Prop := treeTellsRow.holds Try.pinned (OpenSpec.ofChange treeTellsSpec)

/-- ITS FALSE NEIGHBOUR: 'it returns false'. Refute it at one input. -/
def treeTellsWrong : ChangeSpec := { name := "treeTells", fn := fun _ => fun
  | [d] => { results := [.lit (.bool false)], args := [d] }
  | _ => none }
def TreeTellsWrongFalsely : Prop := treeTellsRow.holds Try.pinned (OpenSpec.ofChange treeTellsWrong)

/-- 'pleachlaw.TreeTrue': WHATEVER THE INPUT: true; the input reads as it did. -/
def treeTrueSpec : ChangeSpec := { name := "treeTrue", fn := fun _ => fun
  | [d1, d2] => { results := [.lit (.bool true)], args := [d1, d2] }
  | _ => none }
def treeTrueRow : OpenClaim := { program := "ytdbecbjhgiljoaa", sum := "4decde068f5ec926f915b17ec9a69a61fc4a5e04d28ca3fd5de0d71c65491970", func := "pleach/pleachlaw.TreeTrue", spec := "treeTrue", unfollowed := true, recurses := true, apart := false }
def TreeTrueSaid : Prop := treeTrueRow.holds Try.pinned (OpenSpec.ofChange treeTrueSpec)

/-- ITS FALSE NEIGHBOUR: 'it returns false'. Refute it at one input. -/
def treeTrueWrong : ChangeSpec := { name := "treeTrue", fn := fun _ => fun
  | [d1, d2] => { results := [.lit (.bool false)], args := [d1, d2] }
  | _ => none }
def TreeTrueWrongFalsely : Prop := treeTrueRow.holds Try.pinned (OpenSpec.ofChange treeTrueWrong)

/-- 'pleachlaw.RowsTells': WHATEVER THE INPUT: true; the input reads as it did. -/
def rowsTellsSpec : ChangeSpec := { name := "rowsTells", fn := fun _ => fun
  | [d1, d2] => { results := [.lit (.bool true)], args := [d1, d2] }
  | _ => none }
def rowsTellsRow : OpenClaim := { program := "ytdbecbjhgiljoaa", sum := "4decde068f5ec926f915b17ec9a69a61fc4a5e04d28ca3fd5de0d71c65491970", func := "pleach/pleachlaw.RowsTells", spec := "rowsTells", inPlace := ["slices.overlaps[pleach/api.Row]"], unfollowed := true, recurses := true, apart := false }
def RowsTellsSaid : Prop := rowsTellsRow.holds Try.pinned (OpenSpec.ofChange rowsTellsSpec)

/-- ITS FALSE NEIGHBOUR: 'it returns false'. Refute it at one input. -/
def rowsTellsWrong : ChangeSpec := { name := "rowsTells", fn := fun _ => fun
  | [d1, d2] => { results := [.lit (.bool false)], args := [d1, d2] }
  | _ => none }
def RowsTellsWrongFalsely : Prop := rowsTellsRow.holds Try.pinned (OpenSpec.ofChange rowsTellsWrong)

/-- 'pleachlaw.RowsPuts': WHATEVER THE INPUT: true; the input reads as it did. -/
def rowsPutsSpec : ChangeSpec := { name := "rowsPuts", fn := fun _ => fun
  | [d1, d2, d3] => { results := [.lit (.bool true)], args := [d1, d2, d3] }
  | _ => none }
def rowsPutsRow : OpenClaim := { program := "ytdbecbjhgiljoaa", sum := "4decde068f5ec926f915b17ec9a69a61fc4a5e04d28ca3fd5de0d71c65491970", func := "pleach/pleachlaw.RowsPuts", spec := "rowsPuts", inPlace := ["slices.overlaps[pleach/api.Row]"], unfollowed := true, recurses := true, apart := false }
def RowsPutsSaid : Prop := rowsPutsRow.holds Try.pinned (OpenSpec.ofChange rowsPutsSpec)

/-- ITS FALSE NEIGHBOUR: 'it returns false'. Refute it at one input. -/
def rowsPutsWrong : ChangeSpec := { name := "rowsPuts", fn := fun _ => fun
  | [d1, d2, d3] => { results := [.lit (.bool false)], args := [d1, d2, d3] }
  | _ => none }
def RowsPutsWrongFalsely : Prop := rowsPutsRow.holds Try.pinned (OpenSpec.ofChange rowsPutsWrong)

/-- 'pleachlaw.RowsTrue': WHATEVER THE INPUT: true; the input reads as it did. -/
def rowsTrueSpec : ChangeSpec := { name := "rowsTrue", fn := fun _ => fun
  | [d1, d2, d3, d4, d5] => { results := [.lit (.bool true)], args := [d1, d2, d3, d4, d5] }
  | _ => none }
def rowsTrueRow : OpenClaim := { program := "ytdbecbjhgiljoaa", sum := "4decde068f5ec926f915b17ec9a69a61fc4a5e04d28ca3fd5de0d71c65491970", func := "pleach/pleachlaw.RowsTrue", spec := "rowsTrue", inPlace := ["slices.overlaps[pleach/api.Row]"], unfollowed := true, recurses := true, apart := false }
def RowsTrueSaid : Prop := rowsTrueRow.holds Try.pinned (OpenSpec.ofChange rowsTrueSpec)

/-- ITS FALSE NEIGHBOUR: 'it returns false'. Refute it at one input. -/
def rowsTrueWrong : ChangeSpec := { name := "rowsTrue", fn := fun _ => fun
  | [d1, d2, d3, d4, d5] => { results := [.lit (.bool false)], args := [d1, d2, d3, d4, d5] }
  | _ => none }
def RowsTrueWrongFalsely : Prop := rowsTrueRow.holds Try.pinned (OpenSpec.ofChange rowsTrueWrong)

/-- 'pleachlaw.SeekFinds': WHATEVER THE INPUT: true; the input reads as it did. -/
def seekFindsSpec : ChangeSpec := { name := "seekFinds", fn := fun _ => fun
  | [d1, d2] => { results := [.lit (.bool true)], args := [d1, d2] }
  | _ => none }
def seekFindsRow : OpenClaim := { program := "ytdbecbjhgiljoaa", sum := "4decde068f5ec926f915b17ec9a69a61fc4a5e04d28ca3fd5de0d71c65491970", func := "pleach/pleachlaw.SeekFinds", spec := "seekFinds", unfollowed := true, recurses := true, apart := false }
def SeekFindsSaid : Prop := seekFindsRow.holds Try.pinned (OpenSpec.ofChange seekFindsSpec)

/-- ITS FALSE NEIGHBOUR: 'it returns false'. Refute it at one input. -/
def seekFindsWrong : ChangeSpec := { name := "seekFinds", fn := fun _ => fun
  | [d1, d2] => { results := [.lit (.bool false)], args := [d1, d2] }
  | _ => none }
def SeekFindsWrongFalsely : Prop := seekFindsRow.holds Try.pinned (OpenSpec.ofChange seekFindsWrong)

/-- 'pleachlaw.SeekRanges': WHATEVER THE INPUT: true; the input reads as it did. -/
def seekRangesSpec : ChangeSpec := { name := "seekRanges", fn := fun _ => fun
  | [d1, d2, d3] => { results := [.lit (.bool true)], args := [d1, d2, d3] }
  | _ => none }
def seekRangesRow : OpenClaim := { program := "ytdbecbjhgiljoaa", sum := "4decde068f5ec926f915b17ec9a69a61fc4a5e04d28ca3fd5de0d71c65491970", func := "pleach/pleachlaw.SeekRanges", spec := "seekRanges", unfollowed := true, recurses := true, apart := false }
def SeekRangesSaid : Prop := seekRangesRow.holds Try.pinned (OpenSpec.ofChange seekRangesSpec)

/-- ITS FALSE NEIGHBOUR: 'it returns false'. Refute it at one input. -/
def seekRangesWrong : ChangeSpec := { name := "seekRanges", fn := fun _ => fun
  | [d1, d2, d3] => { results := [.lit (.bool false)], args := [d1, d2, d3] }
  | _ => none }
def SeekRangesWrongFalsely : Prop := seekRangesRow.holds Try.pinned (OpenSpec.ofChange seekRangesWrong)

/-- 'pleachlaw.SeekTrue': WHATEVER THE INPUT: true; the input reads as it did. -/
def seekTrueSpec : ChangeSpec := { name := "seekTrue", fn := fun _ => fun
  | [d1, d2, d3, d4] => { results := [.lit (.bool true)], args := [d1, d2, d3, d4] }
  | _ => none }
def seekTrueRow : OpenClaim := { program := "ytdbecbjhgiljoaa", sum := "4decde068f5ec926f915b17ec9a69a61fc4a5e04d28ca3fd5de0d71c65491970", func := "pleach/pleachlaw.SeekTrue", spec := "seekTrue", unfollowed := true, recurses := true, apart := false }
def SeekTrueSaid : Prop := seekTrueRow.holds Try.pinned (OpenSpec.ofChange seekTrueSpec)

/-- ITS FALSE NEIGHBOUR: 'it returns false'. Refute it at one input. -/
def seekTrueWrong : ChangeSpec := { name := "seekTrue", fn := fun _ => fun
  | [d1, d2, d3, d4] => { results := [.lit (.bool false)], args := [d1, d2, d3, d4] }
  | _ => none }
def SeekTrueWrongFalsely : Prop := seekTrueRow.holds Try.pinned (OpenSpec.ofChange seekTrueWrong)

/- THE SECOND FORM. 'bulk': how many values and letters a reading holds, each counted each time it is reached (what is shared counts as often as it is met; a slice's spare places count too). A statement '..UptoSaid' is the law's where the arguments, and the package variables that the reading takes, are together of bulk at most 1048576: NARROWER than '..Said'. Prove '..Said' where nothing that the law and all that it calls make is longer than what came in: it says more and counts as full. Else prove '..UptoSaid'. A law counts once. -/
mutual
def uptoBulk {H : Type} : DataW H → Nat
  | .lit (.string bytes) => bytes.length + 1
  | .lit _ => 1
  | .nil => 1
  | .ptr d => uptoBulk d + 1
  | .slice elems spare => uptoBulkAll elems + uptoBulkAll spare + 1
  | .agg parts => uptoBulkAll parts + 1
  | .iface _ d => uptoBulk d + 1
  | .map entries => uptoBulkEntries entries + 1
  | .held _ => 1
def uptoBulkAll {H : Type} : List (DataW H) → Nat
  | [] => 0
  | d :: r => uptoBulk d + uptoBulkAll r
def uptoBulkEntries {H : Type} : List (Lit × DataW H) → Nat
  | [] => 0
  | x :: r => uptoBulkEntry x + uptoBulkEntries r
def uptoBulkEntry {H : Type} : Lit × DataW H → Nat
  | (.string bytes, d) => bytes.length + uptoBulk d + 1
  | (_, d) => uptoBulk d + 1
 end
def uptoSmall : (H : Type) → List (DataW H) → Bool := fun _ ds => decide (uptoBulkAll ds ≤ 1048576)
def OpenSpec.upto (s : _root_.Go.ChangeSpec) : _root_.Go.OpenSpec := { _root_.Go.OpenSpec.ofChange s with cond := some uptoSmall }

/-- 'pleachlaw.ChunkCuts', WHERE WHAT IT READS IS OF BULK AT MOST 1048576: true; the input reads as it did. -/
def chunkCutsUptoRow : OpenClaim := { program := "ytdbecbjhgiljoaa", sum := "4decde068f5ec926f915b17ec9a69a61fc4a5e04d28ca3fd5de0d71c65491970", func := "pleach/pleachlaw.ChunkCuts", spec := "chunkCuts", unfollowed := true, recurses := true, apart := false, narrowed := true }
def ChunkCutsUptoSaid : Prop := chunkCutsUptoRow.holds Try.pinned (OpenSpec.upto chunkCutsSpec)

/-- 'pleachlaw.ChunkSums', WHERE WHAT IT READS IS OF BULK AT MOST 1048576: true; the input reads as it did. -/
def chunkSumsUptoRow : OpenClaim := { program := "ytdbecbjhgiljoaa", sum := "4decde068f5ec926f915b17ec9a69a61fc4a5e04d28ca3fd5de0d71c65491970", func := "pleach/pleachlaw.ChunkSums", spec := "chunkSums", unfollowed := true, recurses := true, apart := false, narrowed := true }
def ChunkSumsUptoSaid : Prop := chunkSumsUptoRow.holds Try.pinned (OpenSpec.upto chunkSumsSpec)

/-- 'pleachlaw.ChunkTrue', WHERE WHAT IT READS IS OF BULK AT MOST 1048576: true; the input reads as it did. -/
def chunkTrueUptoRow : OpenClaim := { program := "ytdbecbjhgiljoaa", sum := "4decde068f5ec926f915b17ec9a69a61fc4a5e04d28ca3fd5de0d71c65491970", func := "pleach/pleachlaw.ChunkTrue", spec := "chunkTrue", unfollowed := true, recurses := true, apart := false, narrowed := true }
def ChunkTrueUptoSaid : Prop := chunkTrueUptoRow.holds Try.pinned (OpenSpec.upto chunkTrueSpec)

/-- 'pleachlaw.TreeBuilds', WHERE WHAT IT READS IS OF BULK AT MOST 1048576: true; the input reads as it did. -/
def treeBuildsUptoRow : OpenClaim := { program := "ytdbecbjhgiljoaa", sum := "4decde068f5ec926f915b17ec9a69a61fc4a5e04d28ca3fd5de0d71c65491970", func := "pleach/pleachlaw.TreeBuilds", spec := "treeBuilds", unfollowed := true, recurses := true, apart := false, narrowed := true }
def TreeBuildsUptoSaid : Prop := treeBuildsUptoRow.holds Try.pinned (OpenSpec.upto treeBuildsSpec)

/-- 'pleachlaw.TreeTells', WHERE WHAT IT READS IS OF BULK AT MOST 1048576: true; the input reads as it did. -/
def treeTellsUptoRow : OpenClaim := { program := "ytdbecbjhgiljoaa", sum := "4decde068f5ec926f915b17ec9a69a61fc4a5e04d28ca3fd5de0d71c65491970", func := "pleach/pleachlaw.TreeTells", spec := "treeTells", unfollowed := true, recurses := true, apart := false, narrowed := true }
def TreeTellsUptoSaid : Prop := treeTellsUptoRow.holds Try.pinned (OpenSpec.upto treeTellsSpec)

/-- 'pleachlaw.TreeTrue', WHERE WHAT IT READS IS OF BULK AT MOST 1048576: true; the input reads as it did. -/
def treeTrueUptoRow : OpenClaim := { program := "ytdbecbjhgiljoaa", sum := "4decde068f5ec926f915b17ec9a69a61fc4a5e04d28ca3fd5de0d71c65491970", func := "pleach/pleachlaw.TreeTrue", spec := "treeTrue", unfollowed := true, recurses := true, apart := false, narrowed := true }
def TreeTrueUptoSaid : Prop := treeTrueUptoRow.holds Try.pinned (OpenSpec.upto treeTrueSpec)

/-- 'pleachlaw.RowsTells', WHERE WHAT IT READS IS OF BULK AT MOST 1048576: true; the input reads as it did. -/
def rowsTellsUptoRow : OpenClaim := { program := "ytdbecbjhgiljoaa", sum := "4decde068f5ec926f915b17ec9a69a61fc4a5e04d28ca3fd5de0d71c65491970", func := "pleach/pleachlaw.RowsTells", spec := "rowsTells", inPlace := ["slices.overlaps[pleach/api.Row]"], unfollowed := true, recurses := true, apart := false, narrowed := true }
def RowsTellsUptoSaid : Prop := rowsTellsUptoRow.holds Try.pinned (OpenSpec.upto rowsTellsSpec)

/-- 'pleachlaw.RowsPuts', WHERE WHAT IT READS IS OF BULK AT MOST 1048576: true; the input reads as it did. -/
def rowsPutsUptoRow : OpenClaim := { program := "ytdbecbjhgiljoaa", sum := "4decde068f5ec926f915b17ec9a69a61fc4a5e04d28ca3fd5de0d71c65491970", func := "pleach/pleachlaw.RowsPuts", spec := "rowsPuts", inPlace := ["slices.overlaps[pleach/api.Row]"], unfollowed := true, recurses := true, apart := false, narrowed := true }
def RowsPutsUptoSaid : Prop := rowsPutsUptoRow.holds Try.pinned (OpenSpec.upto rowsPutsSpec)

/-- 'pleachlaw.RowsTrue', WHERE WHAT IT READS IS OF BULK AT MOST 1048576: true; the input reads as it did. -/
def rowsTrueUptoRow : OpenClaim := { program := "ytdbecbjhgiljoaa", sum := "4decde068f5ec926f915b17ec9a69a61fc4a5e04d28ca3fd5de0d71c65491970", func := "pleach/pleachlaw.RowsTrue", spec := "rowsTrue", inPlace := ["slices.overlaps[pleach/api.Row]"], unfollowed := true, recurses := true, apart := false, narrowed := true }
def RowsTrueUptoSaid : Prop := rowsTrueUptoRow.holds Try.pinned (OpenSpec.upto rowsTrueSpec)

/-- 'pleachlaw.SeekFinds', WHERE WHAT IT READS IS OF BULK AT MOST 1048576: true; the input reads as it did. -/
def seekFindsUptoRow : OpenClaim := { program := "ytdbecbjhgiljoaa", sum := "4decde068f5ec926f915b17ec9a69a61fc4a5e04d28ca3fd5de0d71c65491970", func := "pleach/pleachlaw.SeekFinds", spec := "seekFinds", unfollowed := true, recurses := true, apart := false, narrowed := true }
def SeekFindsUptoSaid : Prop := seekFindsUptoRow.holds Try.pinned (OpenSpec.upto seekFindsSpec)

/-- 'pleachlaw.SeekRanges', WHERE WHAT IT READS IS OF BULK AT MOST 1048576: true; the input reads as it did. -/
def seekRangesUptoRow : OpenClaim := { program := "ytdbecbjhgiljoaa", sum := "4decde068f5ec926f915b17ec9a69a61fc4a5e04d28ca3fd5de0d71c65491970", func := "pleach/pleachlaw.SeekRanges", spec := "seekRanges", unfollowed := true, recurses := true, apart := false, narrowed := true }
def SeekRangesUptoSaid : Prop := seekRangesUptoRow.holds Try.pinned (OpenSpec.upto seekRangesSpec)

/-- 'pleachlaw.SeekTrue', WHERE WHAT IT READS IS OF BULK AT MOST 1048576: true; the input reads as it did. -/
def seekTrueUptoRow : OpenClaim := { program := "ytdbecbjhgiljoaa", sum := "4decde068f5ec926f915b17ec9a69a61fc4a5e04d28ca3fd5de0d71c65491970", func := "pleach/pleachlaw.SeekTrue", spec := "seekTrue", unfollowed := true, recurses := true, apart := false, narrowed := true }
def SeekTrueUptoSaid : Prop := seekTrueUptoRow.holds Try.pinned (OpenSpec.upto seekTrueSpec)

end Rows
end Go.Proofs.Ytdbecbjhgiljoaa
