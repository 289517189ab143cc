/-
  No cell of these rows narrows 'for every input' (looked for: loops, veiled, ifaces, maps, wideKeys, modest, calm, conditions, laid).
  DERIVED. THE GIVEN ROWS OF THIS SEAT. 6 by the template 'for every input the law returns true; each argument reads behind the call as it read before'; 0 by the template 'total and deterministic' (their statements: YtdclpbdmdpakkaaTotals.lean).
  GIVEN WITH THE SEED: the statements are not yours to turn. If you find one false, say at which input.
  Laid BY PROGRAM, IN A SANDBOX (cutbox-rows.mjs): the forced cells as the released guide's own fill.sh prints them over the translation 46bab8838d29ea7c… (all of the seat's roots in one cut). By AI agents, Wed Nov 11 2026. No macro, syntax, notation, axiom, sorry.
-/
import Derived.Test.YtdclpbdmdpakkaaChecked
import GoSem.Claim
import GoSem.ClaimJoined
import GoSem.ClaimMapViews
import Derived.JoinedTies
import Derived.KernelRfl
namespace Go.Proofs.Ytdclpbdmdpakkaa
/- THE CELL 'sum', in the pinned program and in every row, IS THE sha256 OF THE DUMP (.gsa) THAT YtdclpbdmdpakkaaProg.lean LOADS. Nothing in Lean hashes anything: it is a label: what it is worth is what the hold of that sum in a sandbox is worth. -/
noncomputable def Try.pinned : Pinned := { name := "ytdclpbdmdpakkaa", sum := "46bab8838d29ea7c383d091a221c159c49247e13525200f01b4c651fdaa3a154", checked := Try.checked }
namespace Rows
def none {H : Type} : Left H := { results := [], args := [] }

/-- 'pleachlaw.WorkPuts': WHATEVER THE INPUT: true; the input reads as it did. -/
def workPutsSpec : ChangeSpec := { name := "workPuts", fn := fun _ => fun
  | [d1, d2, d3] => { results := [.lit (.bool true)], args := [d1, d2, d3] }
  | _ => none }
def workPutsRow : OpenClaim := { program := "ytdclpbdmdpakkaa", sum := "46bab8838d29ea7c383d091a221c159c49247e13525200f01b4c651fdaa3a154", func := "pleach/pleachlaw.WorkPuts", spec := "workPuts", inPlace := ["slices.overlaps[pleach/api.Row]", "slices.overlaps[pleach/api.Head]"], unfollowed := true, recurses := true, apart := false }
def WorkPutsSaid : Prop := workPutsRow.holds Try.pinned (OpenSpec.ofChange workPutsSpec)

/-- ITS FALSE NEIGHBOUR: 'it returns false'. Refute it at one input. -/
def workPutsWrong : ChangeSpec := { name := "workPuts", fn := fun _ => fun
  | [d1, d2, d3] => { results := [.lit (.bool false)], args := [d1, d2, d3] }
  | _ => none }
def WorkPutsWrongFalsely : Prop := workPutsRow.holds Try.pinned (OpenSpec.ofChange workPutsWrong)

/-- 'pleachlaw.WorkHeads': WHATEVER THE INPUT: true; the input reads as it did. -/
def workHeadsSpec : ChangeSpec := { name := "workHeads", fn := fun _ => fun
  | [d1, d2, d3] => { results := [.lit (.bool true)], args := [d1, d2, d3] }
  | _ => none }
def workHeadsRow : OpenClaim := { program := "ytdclpbdmdpakkaa", sum := "46bab8838d29ea7c383d091a221c159c49247e13525200f01b4c651fdaa3a154", func := "pleach/pleachlaw.WorkHeads", spec := "workHeads", inPlace := ["slices.overlaps[pleach/api.Head]", "slices.overlaps[pleach/api.Row]"], unfollowed := true, recurses := true, apart := false }
def WorkHeadsSaid : Prop := workHeadsRow.holds Try.pinned (OpenSpec.ofChange workHeadsSpec)

/-- ITS FALSE NEIGHBOUR: 'it returns false'. Refute it at one input. -/
def workHeadsWrong : ChangeSpec := { name := "workHeads", fn := fun _ => fun
  | [d1, d2, d3] => { results := [.lit (.bool false)], args := [d1, d2, d3] }
  | _ => none }
def WorkHeadsWrongFalsely : Prop := workHeadsRow.holds Try.pinned (OpenSpec.ofChange workHeadsWrong)

/-- 'pleachlaw.WorkBack': WHATEVER THE INPUT: true; the input reads as it did. -/
def workBackSpec : ChangeSpec := { name := "workBack", fn := fun _ => fun
  | [d1, d2, d3] => { results := [.lit (.bool true)], args := [d1, d2, d3] }
  | _ => none }
def workBackRow : OpenClaim := { program := "ytdclpbdmdpakkaa", sum := "46bab8838d29ea7c383d091a221c159c49247e13525200f01b4c651fdaa3a154", func := "pleach/pleachlaw.WorkBack", spec := "workBack", inPlace := ["slices.overlaps[pleach/api.Row]", "slices.overlaps[pleach/api.Head]"], unfollowed := true, recurses := true, apart := false }
def WorkBackSaid : Prop := workBackRow.holds Try.pinned (OpenSpec.ofChange workBackSpec)

/-- ITS FALSE NEIGHBOUR: 'it returns false'. Refute it at one input. -/
def workBackWrong : ChangeSpec := { name := "workBack", fn := fun _ => fun
  | [d1, d2, d3] => { results := [.lit (.bool false)], args := [d1, d2, d3] }
  | _ => none }
def WorkBackWrongFalsely : Prop := workBackRow.holds Try.pinned (OpenSpec.ofChange workBackWrong)

/-- 'pleachlaw.WorkRight': WHATEVER THE INPUT: true; the input reads as it did. -/
def workRightSpec : ChangeSpec := { name := "workRight", fn := fun _ => fun
  | [d1, d2, d3] => { results := [.lit (.bool true)], args := [d1, d2, d3] }
  | _ => none }
def workRightRow : OpenClaim := { program := "ytdclpbdmdpakkaa", sum := "46bab8838d29ea7c383d091a221c159c49247e13525200f01b4c651fdaa3a154", func := "pleach/pleachlaw.WorkRight", spec := "workRight", inPlace := ["slices.overlaps[pleach/api.Row]", "slices.overlaps[pleach/api.Head]"], unfollowed := true, recurses := true, apart := false }
def WorkRightSaid : Prop := workRightRow.holds Try.pinned (OpenSpec.ofChange workRightSpec)

/-- ITS FALSE NEIGHBOUR: 'it returns false'. Refute it at one input. -/
def workRightWrong : ChangeSpec := { name := "workRight", fn := fun _ => fun
  | [d1, d2, d3] => { results := [.lit (.bool false)], args := [d1, d2, d3] }
  | _ => none }
def WorkRightWrongFalsely : Prop := workRightRow.holds Try.pinned (OpenSpec.ofChange workRightWrong)

/-- 'pleachlaw.WorkMerged': WHATEVER THE INPUT: true; the input reads as it did. -/
def workMergedSpec : ChangeSpec := { name := "workMerged", fn := fun _ => fun
  | [d1, d2, d3] => { results := [.lit (.bool true)], args := [d1, d2, d3] }
  | _ => none }
def workMergedRow : OpenClaim := { program := "ytdclpbdmdpakkaa", sum := "46bab8838d29ea7c383d091a221c159c49247e13525200f01b4c651fdaa3a154", func := "pleach/pleachlaw.WorkMerged", spec := "workMerged", inPlace := ["slices.overlaps[pleach/api.Row]", "slices.overlaps[pleach/api.Head]"], unfollowed := true, recurses := true, apart := false }
def WorkMergedSaid : Prop := workMergedRow.holds Try.pinned (OpenSpec.ofChange workMergedSpec)

/-- ITS FALSE NEIGHBOUR: 'it returns false'. Refute it at one input. -/
def workMergedWrong : ChangeSpec := { name := "workMerged", fn := fun _ => fun
  | [d1, d2, d3] => { results := [.lit (.bool false)], args := [d1, d2, d3] }
  | _ => none }
def WorkMergedWrongFalsely : Prop := workMergedRow.holds Try.pinned (OpenSpec.ofChange workMergedWrong)

/-- 'pleachlaw.LogMore': WHATEVER THE INPUT: true; the input reads as it did. -/
def logMoreSpec : ChangeSpec := { name := "logMore", fn := fun _ => fun
  | [d1, d2] => { results := [.lit (.bool true)], args := [d1, d2] }
  | _ => none }
def logMoreRow : OpenClaim := { program := "ytdclpbdmdpakkaa", sum := "46bab8838d29ea7c383d091a221c159c49247e13525200f01b4c651fdaa3a154", func := "pleach/pleachlaw.LogMore", spec := "logMore", inPlace := ["slices.overlaps[pleach/api.Row]", "slices.overlaps[pleach/api.Head]"], unfollowed := true, recurses := true, apart := false }
def LogMoreSaid : Prop := logMoreRow.holds Try.pinned (OpenSpec.ofChange logMoreSpec)

/-- ITS FALSE NEIGHBOUR: 'it returns false'. Refute it at one input. -/
def logMoreWrong : ChangeSpec := { name := "logMore", fn := fun _ => fun
  | [d1, d2] => { results := [.lit (.bool false)], args := [d1, d2] }
  | _ => none }
def LogMoreWrongFalsely : Prop := logMoreRow.holds Try.pinned (OpenSpec.ofChange logMoreWrong)

/- THE SECOND FORM. 'bulk': how many values and letters a reading holds, each counted each time it is reached (what is shared counts as often as it is met; a slice's spare places count too). A statement '..UptoSaid' is the law's where the arguments, and the package variables that the reading takes, are together of bulk at most 1048576: NARROWER than '..Said'. Prove '..Said' where nothing that the law and all that it calls make is longer than what came in: it says more and counts as full. Else prove '..UptoSaid'. A law counts once. -/
mutual
def uptoBulk {H : Type} : DataW H → Nat
  | .lit (.string bytes) => bytes.length + 1
  | .lit _ => 1
  | .nil => 1
  | .ptr d => uptoBulk d + 1
  | .slice elems spare => uptoBulkAll elems + uptoBulkAll spare + 1
  | .agg parts => uptoBulkAll parts + 1
  | .iface _ d => uptoBulk d + 1
  | .map entries => uptoBulkEntries entries + 1
  | .held _ => 1
def uptoBulkAll {H : Type} : List (DataW H) → Nat
  | [] => 0
  | d :: r => uptoBulk d + uptoBulkAll r
def uptoBulkEntries {H : Type} : List (Lit × DataW H) → Nat
  | [] => 0
  | x :: r => uptoBulkEntry x + uptoBulkEntries r
def uptoBulkEntry {H : Type} : Lit × DataW H → Nat
  | (.string bytes, d) => bytes.length + uptoBulk d + 1
  | (_, d) => uptoBulk d + 1
 end
def uptoSmall : (H : Type) → List (DataW H) → Bool := fun _ ds => decide (uptoBulkAll ds ≤ 1048576)
def OpenSpec.upto (s : _root_.Go.ChangeSpec) : _root_.Go.OpenSpec := { _root_.Go.OpenSpec.ofChange s with cond := some uptoSmall }

/-- 'pleachlaw.WorkPuts', WHERE WHAT IT READS IS OF BULK AT MOST 1048576: true; the input reads as it did. -/
def workPutsUptoRow : OpenClaim := { program := "ytdclpbdmdpakkaa", sum := "46bab8838d29ea7c383d091a221c159c49247e13525200f01b4c651fdaa3a154", func := "pleach/pleachlaw.WorkPuts", spec := "workPuts", inPlace := ["slices.overlaps[pleach/api.Row]", "slices.overlaps[pleach/api.Head]"], unfollowed := true, recurses := true, apart := false, narrowed := true }
def WorkPutsUptoSaid : Prop := workPutsUptoRow.holds Try.pinned (OpenSpec.upto workPutsSpec)

/-- 'pleachlaw.WorkHeads', WHERE WHAT IT READS IS OF BULK AT MOST 1048576: true; the input reads as it did. -/
def workHeadsUptoRow : OpenClaim := { program := "ytdclpbdmdpakkaa", sum := "46bab8838d29ea7c383d091a221c159c49247e13525200f01b4c651fdaa3a154", func := "pleach/pleachlaw.WorkHeads", spec := "workHeads", inPlace := ["slices.overlaps[pleach/api.Head]", "slices.overlaps[pleach/api.Row]"], unfollowed := true, recurses := true, apart := false, narrowed := true }
def WorkHeadsUptoSaid : Prop := workHeadsUptoRow.holds Try.pinned (OpenSpec.upto workHeadsSpec)

/-- 'pleachlaw.WorkBack', WHERE WHAT IT READS IS OF BULK AT MOST 1048576: true; the input reads as it did. -/
def workBackUptoRow : OpenClaim := { program := "ytdclpbdmdpakkaa", sum := "46bab8838d29ea7c383d091a221c159c49247e13525200f01b4c651fdaa3a154", func := "pleach/pleachlaw.WorkBack", spec := "workBack", inPlace := ["slices.overlaps[pleach/api.Row]", "slices.overlaps[pleach/api.Head]"], unfollowed := true, recurses := true, apart := false, narrowed := true }
def WorkBackUptoSaid : Prop := workBackUptoRow.holds Try.pinned (OpenSpec.upto workBackSpec)

/-- 'pleachlaw.WorkRight', WHERE WHAT IT READS IS OF BULK AT MOST 1048576: true; the input reads as it did. -/
def workRightUptoRow : OpenClaim := { program := "ytdclpbdmdpakkaa", sum := "46bab8838d29ea7c383d091a221c159c49247e13525200f01b4c651fdaa3a154", func := "pleach/pleachlaw.WorkRight", spec := "workRight", inPlace := ["slices.overlaps[pleach/api.Row]", "slices.overlaps[pleach/api.Head]"], unfollowed := true, recurses := true, apart := false, narrowed := true }
def WorkRightUptoSaid : Prop := workRightUptoRow.holds Try.pinned (OpenSpec.upto workRightSpec)

/-- 'pleachlaw.WorkMerged', WHERE WHAT IT READS IS OF BULK AT MOST 1048576: true; the input reads as it did. -/
def workMergedUptoRow : OpenClaim := { program := "ytdclpbdmdpakkaa", sum := "46bab8838d29ea7c383d091a221c159c49247e13525200f01b4c651fdaa3a154", func := "pleach/pleachlaw.WorkMerged", spec := "workMerged", inPlace := ["slices.overlaps[pleach/api.Row]", "slices.overlaps[pleach/api.Head]"], unfollowed := true, recurses := true, apart := false, narrowed := true }
def WorkMergedUptoSaid : Prop := workMergedUptoRow.holds Try.pinned (OpenSpec.upto workMergedSpec)

/-- 'pleachlaw.LogMore', WHERE WHAT IT READS IS OF BULK AT MOST 1048576: true; the input reads as it did. -/
def logMoreUptoRow : OpenClaim := { program := "ytdclpbdmdpakkaa", sum := "46bab8838d29ea7c383d091a221c159c49247e13525200f01b4c651fdaa3a154", func := "pleach/pleachlaw.LogMore", spec := "logMore", inPlace := ["slices.overlaps[pleach/api.Row]", "slices.overlaps[pleach/api.Head]"], unfollowed := true, recurses := true, apart := false, narrowed := true }
def LogMoreUptoSaid : Prop := logMoreUptoRow.holds Try.pinned (OpenSpec.upto logMoreSpec)

end Rows
end Go.Proofs.Ytdclpbdmdpakkaa
