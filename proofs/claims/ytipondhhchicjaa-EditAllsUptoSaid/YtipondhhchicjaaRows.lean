/-
  No cell of these rows narrows 'for every input' (looked for: loops, veiled, ifaces, maps, wideKeys, modest, calm, conditions, laid).
  DERIVED. THE GIVEN ROWS OF THIS SEAT. 11 by the template 'for every input the law returns true; each argument reads behind the call as it read before'; 0 by the template 'total and deterministic' (their statements: YtipondhhchicjaaTotals.lean).
  GIVEN WITH THE SEED: the statements are not yours to turn. If you find one false, say at which input.
  Laid BY PROGRAM, IN A SANDBOX (cutbox-rows.mjs): the forced cells as the released guide's own fill.sh prints them over the translation f0c9d6bc30337da1… (all of the seat's roots in one cut). By AI agents, Wed Nov 11 2026. No macro, syntax, notation, axiom, sorry.
-/
import Derived.Test.YtipondhhchicjaaChecked
import GoSem.Claim
import GoSem.ClaimJoined
import GoSem.ClaimMapViews
import Derived.JoinedTies
import Derived.KernelRfl
namespace Go.Proofs.Ytipondhhchicjaa
/- THE CELL 'sum', in the pinned program and in every row, IS THE sha256 OF THE DUMP (.gsa) THAT YtipondhhchicjaaProg.lean LOADS. Nothing in Lean hashes anything: it is a label: what it is worth is what the hold of that sum in a sandbox is worth. -/
noncomputable def Try.pinned : Pinned := { name := "ytipondhhchicjaa", sum := "f0c9d6bc30337da1139cf1752959c4b8bd1fbe2081f7844bd43af1cdd6a5eb2d", checked := Try.checked }
namespace Rows
def none {H : Type} : Left H := { results := [], args := [] }

/-- 'pleachlaw.ThreeMerges': WHATEVER THE INPUT: true; the input reads as it did. -/
def threeMergesSpec : ChangeSpec := { name := "threeMerges", fn := fun _ => fun
  | [d1, d2, d3] => { results := [.lit (.bool true)], args := [d1, d2, d3] }
  | _ => none }
def threeMergesRow : OpenClaim := { program := "ytipondhhchicjaa", sum := "f0c9d6bc30337da1139cf1752959c4b8bd1fbe2081f7844bd43af1cdd6a5eb2d", func := "pleach/pleachlaw.ThreeMerges", spec := "threeMerges", inPlace := ["slices.overlaps[pleach/api.Row]"], unfollowed := true, recurses := true, apart := false }
def ThreeMergesSaid : Prop := threeMergesRow.holds Try.pinned (OpenSpec.ofChange threeMergesSpec)

/-- ITS FALSE NEIGHBOUR: 'it returns false'. Refute it at one input. -/
def threeMergesWrong : ChangeSpec := { name := "threeMerges", fn := fun _ => fun
  | [d1, d2, d3] => { results := [.lit (.bool false)], args := [d1, d2, d3] }
  | _ => none }
def ThreeMergesWrongFalsely : Prop := threeMergesRow.holds Try.pinned (OpenSpec.ofChange threeMergesWrong)

/-- 'pleachlaw.ThreeTrue': WHATEVER THE INPUT: true; the input reads as it did. -/
def threeTrueSpec : ChangeSpec := { name := "threeTrue", fn := fun _ => fun
  | [d1, d2, d3, d4] => { results := [.lit (.bool true)], args := [d1, d2, d3, d4] }
  | _ => none }
def threeTrueRow : OpenClaim := { program := "ytipondhhchicjaa", sum := "f0c9d6bc30337da1139cf1752959c4b8bd1fbe2081f7844bd43af1cdd6a5eb2d", func := "pleach/pleachlaw.ThreeTrue", spec := "threeTrue", inPlace := ["slices.overlaps[pleach/api.Row]"], unfollowed := true, recurses := true, apart := false }
def ThreeTrueSaid : Prop := threeTrueRow.holds Try.pinned (OpenSpec.ofChange threeTrueSpec)

/-- ITS FALSE NEIGHBOUR: 'it returns false'. Refute it at one input. -/
def threeTrueWrong : ChangeSpec := { name := "threeTrue", fn := fun _ => fun
  | [d1, d2, d3, d4] => { results := [.lit (.bool false)], args := [d1, d2, d3, d4] }
  | _ => none }
def ThreeTrueWrongFalsely : Prop := threeTrueRow.holds Try.pinned (OpenSpec.ofChange threeTrueWrong)

/-- 'pleachlaw.ThreePatch': WHATEVER THE INPUT: true; the input reads as it did. -/
def threePatchSpec : ChangeSpec := { name := "threePatch", fn := fun _ => fun
  | [d1, d2, d3] => { results := [.lit (.bool true)], args := [d1, d2, d3] }
  | _ => none }
def threePatchRow : OpenClaim := { program := "ytipondhhchicjaa", sum := "f0c9d6bc30337da1139cf1752959c4b8bd1fbe2081f7844bd43af1cdd6a5eb2d", func := "pleach/pleachlaw.ThreePatch", spec := "threePatch", inPlace := ["slices.overlaps[pleach/api.Row]"], unfollowed := true, recurses := true, apart := false }
def ThreePatchSaid : Prop := threePatchRow.holds Try.pinned (OpenSpec.ofChange threePatchSpec)

/-- ITS FALSE NEIGHBOUR: 'it returns false'. Refute it at one input. -/
def threePatchWrong : ChangeSpec := { name := "threePatch", fn := fun _ => fun
  | [d1, d2, d3] => { results := [.lit (.bool false)], args := [d1, d2, d3] }
  | _ => none }
def ThreePatchWrongFalsely : Prop := threePatchRow.holds Try.pinned (OpenSpec.ofChange threePatchWrong)

/-- 'pleachlaw.DiffTells': WHATEVER THE INPUT: true; the input reads as it did. -/
def diffTellsSpec : ChangeSpec := { name := "diffTells", fn := fun _ => fun
  | [d1, d2] => { results := [.lit (.bool true)], args := [d1, d2] }
  | _ => none }
def diffTellsRow : OpenClaim := { program := "ytipondhhchicjaa", sum := "f0c9d6bc30337da1139cf1752959c4b8bd1fbe2081f7844bd43af1cdd6a5eb2d", func := "pleach/pleachlaw.DiffTells", spec := "diffTells", inPlace := ["slices.overlaps[pleach/api.Row]"], unfollowed := true, recurses := true, apart := false }
def DiffTellsSaid : Prop := diffTellsRow.holds Try.pinned (OpenSpec.ofChange diffTellsSpec)

/-- ITS FALSE NEIGHBOUR: 'it returns false'. Refute it at one input. -/
def diffTellsWrong : ChangeSpec := { name := "diffTells", fn := fun _ => fun
  | [d1, d2] => { results := [.lit (.bool false)], args := [d1, d2] }
  | _ => none }
def DiffTellsWrongFalsely : Prop := diffTellsRow.holds Try.pinned (OpenSpec.ofChange diffTellsWrong)

/-- 'pleachlaw.DiffPatches': WHATEVER THE INPUT: true; the input reads as it did. -/
def diffPatchesSpec : ChangeSpec := { name := "diffPatches", fn := fun _ => fun
  | [d1, d2] => { results := [.lit (.bool true)], args := [d1, d2] }
  | _ => none }
def diffPatchesRow : OpenClaim := { program := "ytipondhhchicjaa", sum := "f0c9d6bc30337da1139cf1752959c4b8bd1fbe2081f7844bd43af1cdd6a5eb2d", func := "pleach/pleachlaw.DiffPatches", spec := "diffPatches", inPlace := ["slices.overlaps[pleach/api.Row]"], unfollowed := true, recurses := true, apart := false }
def DiffPatchesSaid : Prop := diffPatchesRow.holds Try.pinned (OpenSpec.ofChange diffPatchesSpec)

/-- ITS FALSE NEIGHBOUR: 'it returns false'. Refute it at one input. -/
def diffPatchesWrong : ChangeSpec := { name := "diffPatches", fn := fun _ => fun
  | [d1, d2] => { results := [.lit (.bool false)], args := [d1, d2] }
  | _ => none }
def DiffPatchesWrongFalsely : Prop := diffPatchesRow.holds Try.pinned (OpenSpec.ofChange diffPatchesWrong)

/-- 'pleachlaw.DiffTrue': WHATEVER THE INPUT: true; the input reads as it did. -/
def diffTrueSpec : ChangeSpec := { name := "diffTrue", fn := fun _ => fun
  | [d1, d2] => { results := [.lit (.bool true)], args := [d1, d2] }
  | _ => none }
def diffTrueRow : OpenClaim := { program := "ytipondhhchicjaa", sum := "f0c9d6bc30337da1139cf1752959c4b8bd1fbe2081f7844bd43af1cdd6a5eb2d", func := "pleach/pleachlaw.DiffTrue", spec := "diffTrue", inPlace := ["slices.overlaps[pleach/api.Row]"], unfollowed := true, recurses := true, apart := false }
def DiffTrueSaid : Prop := diffTrueRow.holds Try.pinned (OpenSpec.ofChange diffTrueSpec)

/-- ITS FALSE NEIGHBOUR: 'it returns false'. Refute it at one input. -/
def diffTrueWrong : ChangeSpec := { name := "diffTrue", fn := fun _ => fun
  | [d1, d2] => { results := [.lit (.bool false)], args := [d1, d2] }
  | _ => none }
def DiffTrueWrongFalsely : Prop := diffTrueRow.holds Try.pinned (OpenSpec.ofChange diffTrueWrong)

/-- 'pleachlaw.DiffNone': WHATEVER THE INPUT: true; the input reads as it did. -/
def diffNoneSpec : ChangeSpec := { name := "diffNone", fn := fun _ => fun
  | [d1, d2, d3] => { results := [.lit (.bool true)], args := [d1, d2, d3] }
  | _ => none }
def diffNoneRow : OpenClaim := { program := "ytipondhhchicjaa", sum := "f0c9d6bc30337da1139cf1752959c4b8bd1fbe2081f7844bd43af1cdd6a5eb2d", func := "pleach/pleachlaw.DiffNone", spec := "diffNone", inPlace := ["slices.overlaps[pleach/api.Row]"], unfollowed := true, recurses := true, apart := false }
def DiffNoneSaid : Prop := diffNoneRow.holds Try.pinned (OpenSpec.ofChange diffNoneSpec)

/-- ITS FALSE NEIGHBOUR: 'it returns false'. Refute it at one input. -/
def diffNoneWrong : ChangeSpec := { name := "diffNone", fn := fun _ => fun
  | [d1, d2, d3] => { results := [.lit (.bool false)], args := [d1, d2, d3] }
  | _ => none }
def DiffNoneWrongFalsely : Prop := diffNoneRow.holds Try.pinned (OpenSpec.ofChange diffNoneWrong)

/-- 'pleachlaw.EditPuts': WHATEVER THE INPUT: true; the input reads as it did. -/
def editPutsSpec : ChangeSpec := { name := "editPuts", fn := fun _ => fun
  | [d1, d2, d3] => { results := [.lit (.bool true)], args := [d1, d2, d3] }
  | _ => none }
def editPutsRow : OpenClaim := { program := "ytipondhhchicjaa", sum := "f0c9d6bc30337da1139cf1752959c4b8bd1fbe2081f7844bd43af1cdd6a5eb2d", func := "pleach/pleachlaw.EditPuts", spec := "editPuts", unfollowed := true, recurses := true, apart := false }
def EditPutsSaid : Prop := editPutsRow.holds Try.pinned (OpenSpec.ofChange editPutsSpec)

/-- ITS FALSE NEIGHBOUR: 'it returns false'. Refute it at one input. -/
def editPutsWrong : ChangeSpec := { name := "editPuts", fn := fun _ => fun
  | [d1, d2, d3] => { results := [.lit (.bool false)], args := [d1, d2, d3] }
  | _ => none }
def EditPutsWrongFalsely : Prop := editPutsRow.holds Try.pinned (OpenSpec.ofChange editPutsWrong)

/-- 'pleachlaw.EditAlls': WHATEVER THE INPUT: true; the input reads as it did. -/
def editAllsSpec : ChangeSpec := { name := "editAlls", fn := fun _ => fun
  | [d1, d2] => { results := [.lit (.bool true)], args := [d1, d2] }
  | _ => none }
def editAllsRow : OpenClaim := { program := "ytipondhhchicjaa", sum := "f0c9d6bc30337da1139cf1752959c4b8bd1fbe2081f7844bd43af1cdd6a5eb2d", func := "pleach/pleachlaw.EditAlls", spec := "editAlls", unfollowed := true, recurses := true, apart := false }
def EditAllsSaid : Prop := editAllsRow.holds Try.pinned (OpenSpec.ofChange editAllsSpec)

/-- ITS FALSE NEIGHBOUR: 'it returns false'. Refute it at one input. -/
def editAllsWrong : ChangeSpec := { name := "editAlls", fn := fun _ => fun
  | [d1, d2] => { results := [.lit (.bool false)], args := [d1, d2] }
  | _ => none }
def EditAllsWrongFalsely : Prop := editAllsRow.holds Try.pinned (OpenSpec.ofChange editAllsWrong)

/-- 'pleachlaw.EditOrder': WHATEVER THE INPUT: true; the input reads as it did. -/
def editOrderSpec : ChangeSpec := { name := "editOrder", fn := fun _ => fun
  | [d1, d2, d3, d4, d5] => { results := [.lit (.bool true)], args := [d1, d2, d3, d4, d5] }
  | _ => none }
def editOrderRow : OpenClaim := { program := "ytipondhhchicjaa", sum := "f0c9d6bc30337da1139cf1752959c4b8bd1fbe2081f7844bd43af1cdd6a5eb2d", func := "pleach/pleachlaw.EditOrder", spec := "editOrder", unfollowed := true, recurses := true, apart := false }
def EditOrderSaid : Prop := editOrderRow.holds Try.pinned (OpenSpec.ofChange editOrderSpec)

/-- ITS FALSE NEIGHBOUR: 'it returns false'. Refute it at one input. -/
def editOrderWrong : ChangeSpec := { name := "editOrder", fn := fun _ => fun
  | [d1, d2, d3, d4, d5] => { results := [.lit (.bool false)], args := [d1, d2, d3, d4, d5] }
  | _ => none }
def EditOrderWrongFalsely : Prop := editOrderRow.holds Try.pinned (OpenSpec.ofChange editOrderWrong)

/-- 'pleachlaw.EditSame': WHATEVER THE INPUT: true; the input reads as it did. -/
def editSameSpec : ChangeSpec := { name := "editSame", fn := fun _ => fun
  | [d1, d2, d3] => { results := [.lit (.bool true)], args := [d1, d2, d3] }
  | _ => none }
def editSameRow : OpenClaim := { program := "ytipondhhchicjaa", sum := "f0c9d6bc30337da1139cf1752959c4b8bd1fbe2081f7844bd43af1cdd6a5eb2d", func := "pleach/pleachlaw.EditSame", spec := "editSame", inPlace := ["slices.overlaps[pleach/api.Row]"], unfollowed := true, recurses := true, apart := false }
def EditSameSaid : Prop := editSameRow.holds Try.pinned (OpenSpec.ofChange editSameSpec)

/-- ITS FALSE NEIGHBOUR: 'it returns false'. Refute it at one input. -/
def editSameWrong : ChangeSpec := { name := "editSame", fn := fun _ => fun
  | [d1, d2, d3] => { results := [.lit (.bool false)], args := [d1, d2, d3] }
  | _ => none }
def EditSameWrongFalsely : Prop := editSameRow.holds Try.pinned (OpenSpec.ofChange editSameWrong)

/- THE SECOND FORM. 'bulk': how many values and letters a reading holds, each counted each time it is reached (what is shared counts as often as it is met; a slice's spare places count too). A statement '..UptoSaid' is the law's where the arguments, and the package variables that the reading takes, are together of bulk at most 1048576: NARROWER than '..Said'. Prove '..Said' where nothing that the law and all that it calls make is longer than what came in: it says more and counts as full. Else prove '..UptoSaid'. A law counts once. -/
mutual
def uptoBulk {H : Type} : DataW H → Nat
  | .lit (.string bytes) => bytes.length + 1
  | .lit _ => 1
  | .nil => 1
  | .ptr d => uptoBulk d + 1
  | .slice elems spare => uptoBulkAll elems + uptoBulkAll spare + 1
  | .agg parts => uptoBulkAll parts + 1
  | .iface _ d => uptoBulk d + 1
  | .map entries => uptoBulkEntries entries + 1
  | .held _ => 1
def uptoBulkAll {H : Type} : List (DataW H) → Nat
  | [] => 0
  | d :: r => uptoBulk d + uptoBulkAll r
def uptoBulkEntries {H : Type} : List (Lit × DataW H) → Nat
  | [] => 0
  | x :: r => uptoBulkEntry x + uptoBulkEntries r
def uptoBulkEntry {H : Type} : Lit × DataW H → Nat
  | (.string bytes, d) => bytes.length + uptoBulk d + 1
  | (_, d) => uptoBulk d + 1
 end
def uptoSmall : (H : Type) → List (DataW H) → Bool := fun _ ds => decide (uptoBulkAll ds ≤ 1048576)
def OpenSpec.upto (s : _root_.Go.ChangeSpec) : _root_.Go.OpenSpec := { _root_.Go.OpenSpec.ofChange s with cond := some uptoSmall }

/-- 'pleachlaw.ThreeMerges', WHERE WHAT IT READS IS OF BULK AT MOST 1048576: true; the input reads as it did. -/
def threeMergesUptoRow : OpenClaim := { program := "ytipondhhchicjaa", sum := "f0c9d6bc30337da1139cf1752959c4b8bd1fbe2081f7844bd43af1cdd6a5eb2d", func := "pleach/pleachlaw.ThreeMerges", spec := "threeMerges", inPlace := ["slices.overlaps[pleach/api.Row]"], unfollowed := true, recurses := true, apart := false, narrowed := true }
def ThreeMergesUptoSaid : Prop := threeMergesUptoRow.holds Try.pinned (OpenSpec.upto threeMergesSpec)

/-- 'pleachlaw.ThreeTrue', WHERE WHAT IT READS IS OF BULK AT MOST 1048576: true; the input reads as it did. -/
def threeTrueUptoRow : OpenClaim := { program := "ytipondhhchicjaa", sum := "f0c9d6bc30337da1139cf1752959c4b8bd1fbe2081f7844bd43af1cdd6a5eb2d", func := "pleach/pleachlaw.ThreeTrue", spec := "threeTrue", inPlace := ["slices.overlaps[pleach/api.Row]"], unfollowed := true, recurses := true, apart := false, narrowed := true }
def ThreeTrueUptoSaid : Prop := threeTrueUptoRow.holds Try.pinned (OpenSpec.upto threeTrueSpec)

/-- 'pleachlaw.ThreePatch', WHERE WHAT IT READS IS OF BULK AT MOST 1048576: true; the input reads as it did. -/
def threePatchUptoRow : OpenClaim := { program := "ytipondhhchicjaa", sum := "f0c9d6bc30337da1139cf1752959c4b8bd1fbe2081f7844bd43af1cdd6a5eb2d", func := "pleach/pleachlaw.ThreePatch", spec := "threePatch", inPlace := ["slices.overlaps[pleach/api.Row]"], unfollowed := true, recurses := true, apart := false, narrowed := true }
def ThreePatchUptoSaid : Prop := threePatchUptoRow.holds Try.pinned (OpenSpec.upto threePatchSpec)

/-- 'pleachlaw.DiffTells', WHERE WHAT IT READS IS OF BULK AT MOST 1048576: true; the input reads as it did. -/
def diffTellsUptoRow : OpenClaim := { program := "ytipondhhchicjaa", sum := "f0c9d6bc30337da1139cf1752959c4b8bd1fbe2081f7844bd43af1cdd6a5eb2d", func := "pleach/pleachlaw.DiffTells", spec := "diffTells", inPlace := ["slices.overlaps[pleach/api.Row]"], unfollowed := true, recurses := true, apart := false, narrowed := true }
def DiffTellsUptoSaid : Prop := diffTellsUptoRow.holds Try.pinned (OpenSpec.upto diffTellsSpec)

/-- 'pleachlaw.DiffPatches', WHERE WHAT IT READS IS OF BULK AT MOST 1048576: true; the input reads as it did. -/
def diffPatchesUptoRow : OpenClaim := { program := "ytipondhhchicjaa", sum := "f0c9d6bc30337da1139cf1752959c4b8bd1fbe2081f7844bd43af1cdd6a5eb2d", func := "pleach/pleachlaw.DiffPatches", spec := "diffPatches", inPlace := ["slices.overlaps[pleach/api.Row]"], unfollowed := true, recurses := true, apart := false, narrowed := true }
def DiffPatchesUptoSaid : Prop := diffPatchesUptoRow.holds Try.pinned (OpenSpec.upto diffPatchesSpec)

/-- 'pleachlaw.DiffTrue', WHERE WHAT IT READS IS OF BULK AT MOST 1048576: true; the input reads as it did. -/
def diffTrueUptoRow : OpenClaim := { program := "ytipondhhchicjaa", sum := "f0c9d6bc30337da1139cf1752959c4b8bd1fbe2081f7844bd43af1cdd6a5eb2d", func := "pleach/pleachlaw.DiffTrue", spec := "diffTrue", inPlace := ["slices.overlaps[pleach/api.Row]"], unfollowed := true, recurses := true, apart := false, narrowed := true }
def DiffTrueUptoSaid : Prop := diffTrueUptoRow.holds Try.pinned (OpenSpec.upto diffTrueSpec)

/-- 'pleachlaw.DiffNone', WHERE WHAT IT READS IS OF BULK AT MOST 1048576: true; the input reads as it did. -/
def diffNoneUptoRow : OpenClaim := { program := "ytipondhhchicjaa", sum := "f0c9d6bc30337da1139cf1752959c4b8bd1fbe2081f7844bd43af1cdd6a5eb2d", func := "pleach/pleachlaw.DiffNone", spec := "diffNone", inPlace := ["slices.overlaps[pleach/api.Row]"], unfollowed := true, recurses := true, apart := false, narrowed := true }
def DiffNoneUptoSaid : Prop := diffNoneUptoRow.holds Try.pinned (OpenSpec.upto diffNoneSpec)

/-- 'pleachlaw.EditPuts', WHERE WHAT IT READS IS OF BULK AT MOST 1048576: true; the input reads as it did. -/
def editPutsUptoRow : OpenClaim := { program := "ytipondhhchicjaa", sum := "f0c9d6bc30337da1139cf1752959c4b8bd1fbe2081f7844bd43af1cdd6a5eb2d", func := "pleach/pleachlaw.EditPuts", spec := "editPuts", unfollowed := true, recurses := true, apart := false, narrowed := true }
def EditPutsUptoSaid : Prop := editPutsUptoRow.holds Try.pinned (OpenSpec.upto editPutsSpec)

/-- 'pleachlaw.EditAlls', WHERE WHAT IT READS IS OF BULK AT MOST 1048576: true; the input reads as it did. -/
def editAllsUptoRow : OpenClaim := { program := "ytipondhhchicjaa", sum := "f0c9d6bc30337da1139cf1752959c4b8bd1fbe2081f7844bd43af1cdd6a5eb2d", func := "pleach/pleachlaw.EditAlls", spec := "editAlls", unfollowed := true, recurses := true, apart := false, narrowed := true }
def EditAllsUptoSaid : Prop := editAllsUptoRow.holds Try.pinned (OpenSpec.upto editAllsSpec)

/-- 'pleachlaw.EditOrder', WHERE WHAT IT READS IS OF BULK AT MOST 1048576: true; the input reads as it did. -/
def editOrderUptoRow : OpenClaim := { program := "ytipondhhchicjaa", sum := "f0c9d6bc30337da1139cf1752959c4b8bd1fbe2081f7844bd43af1cdd6a5eb2d", func := "pleach/pleachlaw.EditOrder", spec := "editOrder", unfollowed := true, recurses := true, apart := false, narrowed := true }
def EditOrderUptoSaid : Prop := editOrderUptoRow.holds Try.pinned (OpenSpec.upto editOrderSpec)

/-- 'pleachlaw.EditSame', WHERE WHAT IT READS IS OF BULK AT MOST 1048576: true; the input reads as it did. -/
def editSameUptoRow : OpenClaim := { program := "ytipondhhchicjaa", sum := "f0c9d6bc30337da1139cf1752959c4b8bd1fbe2081f7844bd43af1cdd6a5eb2d", func := "pleach/pleachlaw.EditSame", spec := "editSame", inPlace := ["slices.overlaps[pleach/api.Row]"], unfollowed := true, recurses := true, apart := false, narrowed := true }
def EditSameUptoSaid : Prop := editSameUptoRow.holds Try.pinned (OpenSpec.upto editSameSpec)

end Rows
end Go.Proofs.Ytipondhhchicjaa
