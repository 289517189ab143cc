/-
  No cell of these rows narrows 'for every input' (looked for: loops, veiled, ifaces, maps, wideKeys, modest, calm, conditions, laid).
  DERIVED. THE GIVEN ROWS OF THIS SEAT. 5 by the template 'for every input the law returns true; each argument reads behind the call as it read before'; 0 by the template 'total and deterministic' (their statements: YtdclpbdmdpakkaaGreatTotals.lean).
  GIVEN WITH THE SEED: the statements are not yours to turn. If you find one false, say at which input.
  Laid BY PROGRAM, IN A SANDBOX (cutbox-rows.mjs): the forced cells as the released guide's own fill.sh prints them over the translation f6da1bc77aa8496c… (all of the seat's roots in one cut). By AI agents, Wed Nov 11 2026. No macro, syntax, notation, axiom, sorry.
-/
import Derived.Test.YtdclpbdmdpakkaaGreatChecked
import GoSem.Claim
import GoSem.ClaimJoined
import GoSem.ClaimMapViews
import Derived.JoinedTies
import Derived.KernelRfl
namespace Go.Proofs.YtdclpbdmdpakkaaGreat
/- THE CELL 'sum', in the pinned program and in every row, IS THE sha256 OF THE DUMP (.gsa) THAT YtdclpbdmdpakkaaGreatProg.lean LOADS. Nothing in Lean hashes anything: it is a label: what it is worth is what the hold of that sum in a sandbox is worth. -/
noncomputable def Tryz.pinned : Pinned := { name := "ytdclpbdmdpakkaagreat", sum := "f6da1bc77aa8496c9f5f650e8617ac63abedfed74f09505071db81ea5ff15a51", checked := Tryz.checked }
namespace Rows
def none {H : Type} : Left H := { results := [], args := [] }

/-- 'pleachlaw.WorkMerges': WHATEVER THE INPUT: true; the input reads as it did. -/
def workMergesSpec : ChangeSpec := { name := "workMerges", fn := fun _ => fun
  | [d1, d2, d3] => { results := [.lit (.bool true)], args := [d1, d2, d3] }
  | _ => none }
def workMergesRow : OpenClaim := { program := "ytdclpbdmdpakkaagreat", sum := "f6da1bc77aa8496c9f5f650e8617ac63abedfed74f09505071db81ea5ff15a51", func := "pleach/pleachlaw.WorkMerges", spec := "workMerges", inPlace := ["slices.overlaps[pleach/api.Row]", "slices.overlaps[pleach/api.Head]"], unfollowed := true, recurses := true, apart := false }
def WorkMergesSaid : Prop := workMergesRow.holds Tryz.pinned (OpenSpec.ofChange workMergesSpec)

/-- ITS FALSE NEIGHBOUR: 'it returns false'. Refute it at one input. -/
def workMergesWrong : ChangeSpec := { name := "workMerges", fn := fun _ => fun
  | [d1, d2, d3] => { results := [.lit (.bool false)], args := [d1, d2, d3] }
  | _ => none }
def WorkMergesWrongFalsely : Prop := workMergesRow.holds Tryz.pinned (OpenSpec.ofChange workMergesWrong)

/-- 'pleachlaw.LogDoes': WHATEVER THE INPUT: true; the input reads as it did. -/
def logDoesSpec : ChangeSpec := { name := "logDoes", fn := fun _ => fun
  | [d1, d2] => { results := [.lit (.bool true)], args := [d1, d2] }
  | _ => none }
def logDoesRow : OpenClaim := { program := "ytdclpbdmdpakkaagreat", sum := "f6da1bc77aa8496c9f5f650e8617ac63abedfed74f09505071db81ea5ff15a51", func := "pleach/pleachlaw.LogDoes", spec := "logDoes", inPlace := ["slices.overlaps[pleach/api.Row]", "slices.overlaps[pleach/api.Head]"], unfollowed := true, recurses := true, apart := false }
def LogDoesSaid : Prop := logDoesRow.holds Tryz.pinned (OpenSpec.ofChange logDoesSpec)

/-- ITS FALSE NEIGHBOUR: 'it returns false'. Refute it at one input. -/
def logDoesWrong : ChangeSpec := { name := "logDoes", fn := fun _ => fun
  | [d1, d2] => { results := [.lit (.bool false)], args := [d1, d2] }
  | _ => none }
def LogDoesWrongFalsely : Prop := logDoesRow.holds Tryz.pinned (OpenSpec.ofChange logDoesWrong)

/-- 'pleachlaw.LogReplays': WHATEVER THE INPUT: true; the input reads as it did. -/
def logReplaysSpec : ChangeSpec := { name := "logReplays", fn := fun _ => fun
  | [d1, d2] => { results := [.lit (.bool true)], args := [d1, d2] }
  | _ => none }
def logReplaysRow : OpenClaim := { program := "ytdclpbdmdpakkaagreat", sum := "f6da1bc77aa8496c9f5f650e8617ac63abedfed74f09505071db81ea5ff15a51", func := "pleach/pleachlaw.LogReplays", spec := "logReplays", inPlace := ["slices.overlaps[pleach/api.Row]", "slices.overlaps[pleach/api.Head]"], unfollowed := true, recurses := true, apart := false }
def LogReplaysSaid : Prop := logReplaysRow.holds Tryz.pinned (OpenSpec.ofChange logReplaysSpec)

/-- ITS FALSE NEIGHBOUR: 'it returns false'. Refute it at one input. -/
def logReplaysWrong : ChangeSpec := { name := "logReplays", fn := fun _ => fun
  | [d1, d2] => { results := [.lit (.bool false)], args := [d1, d2] }
  | _ => none }
def LogReplaysWrongFalsely : Prop := logReplaysRow.holds Tryz.pinned (OpenSpec.ofChange logReplaysWrong)

/-- 'pleachlaw.LogRecovers': WHATEVER THE INPUT: true; the input reads as it did. -/
def logRecoversSpec : ChangeSpec := { name := "logRecovers", fn := fun _ => fun
  | [d] => { results := [.lit (.bool true)], args := [d] }
  | _ => none }
def logRecoversRow : OpenClaim := { program := "ytdclpbdmdpakkaagreat", sum := "f6da1bc77aa8496c9f5f650e8617ac63abedfed74f09505071db81ea5ff15a51", func := "pleach/pleachlaw.LogRecovers", spec := "logRecovers", inPlace := ["slices.overlaps[pleach/api.Row]", "slices.overlaps[pleach/api.Head]"], unfollowed := true, recurses := true, apart := false }
def LogRecoversSaid : Prop := logRecoversRow.holds Tryz.pinned (OpenSpec.ofChange logRecoversSpec)

/-- ITS FALSE NEIGHBOUR: 'it returns false'. Refute it at one input. -/
def logRecoversWrong : ChangeSpec := { name := "logRecovers", fn := fun _ => fun
  | [d] => { results := [.lit (.bool false)], args := [d] }
  | _ => none }
def LogRecoversWrongFalsely : Prop := logRecoversRow.holds Tryz.pinned (OpenSpec.ofChange logRecoversWrong)

/-- 'pleachlaw.LogKept': WHATEVER THE INPUT: true; the input reads as it did. -/
def logKeptSpec : ChangeSpec := { name := "logKept", fn := fun _ => fun
  | [d1, d2] => { results := [.lit (.bool true)], args := [d1, d2] }
  | _ => none }
def logKeptRow : OpenClaim := { program := "ytdclpbdmdpakkaagreat", sum := "f6da1bc77aa8496c9f5f650e8617ac63abedfed74f09505071db81ea5ff15a51", func := "pleach/pleachlaw.LogKept", spec := "logKept", inPlace := ["slices.overlaps[pleach/api.Row]", "slices.overlaps[pleach/api.Head]"], unfollowed := true, recurses := true, apart := false }
def LogKeptSaid : Prop := logKeptRow.holds Tryz.pinned (OpenSpec.ofChange logKeptSpec)

/-- ITS FALSE NEIGHBOUR: 'it returns false'. Refute it at one input. -/
def logKeptWrong : ChangeSpec := { name := "logKept", fn := fun _ => fun
  | [d1, d2] => { results := [.lit (.bool false)], args := [d1, d2] }
  | _ => none }
def LogKeptWrongFalsely : Prop := logKeptRow.holds Tryz.pinned (OpenSpec.ofChange logKeptWrong)

/- THE SECOND FORM. 'bulk': how many values and letters a reading holds, each counted each time it is reached (what is shared counts as often as it is met; a slice's spare places count too). A statement '..UptoSaid' is the law's where the arguments, and the package variables that the reading takes, are together of bulk at most 1048576: NARROWER than '..Said'. Prove '..Said' where nothing that the law and all that it calls make is longer than what came in: it says more and counts as full. Else prove '..UptoSaid'. A law counts once. -/
mutual
def uptoBulk {H : Type} : DataW H → Nat
  | .lit (.string bytes) => bytes.length + 1
  | .lit _ => 1
  | .nil => 1
  | .ptr d => uptoBulk d + 1
  | .slice elems spare => uptoBulkAll elems + uptoBulkAll spare + 1
  | .agg parts => uptoBulkAll parts + 1
  | .iface _ d => uptoBulk d + 1
  | .map entries => uptoBulkEntries entries + 1
  | .held _ => 1
def uptoBulkAll {H : Type} : List (DataW H) → Nat
  | [] => 0
  | d :: r => uptoBulk d + uptoBulkAll r
def uptoBulkEntries {H : Type} : List (Lit × DataW H) → Nat
  | [] => 0
  | x :: r => uptoBulkEntry x + uptoBulkEntries r
def uptoBulkEntry {H : Type} : Lit × DataW H → Nat
  | (.string bytes, d) => bytes.length + uptoBulk d + 1
  | (_, d) => uptoBulk d + 1
 end
def uptoSmall : (H : Type) → List (DataW H) → Bool := fun _ ds => decide (uptoBulkAll ds ≤ 1048576)
def OpenSpec.upto (s : _root_.Go.ChangeSpec) : _root_.Go.OpenSpec := { _root_.Go.OpenSpec.ofChange s with cond := some uptoSmall }

/-- 'pleachlaw.WorkMerges', WHERE WHAT IT READS IS OF BULK AT MOST 1048576: true; the input reads as it did. -/
def workMergesUptoRow : OpenClaim := { program := "ytdclpbdmdpakkaagreat", sum := "f6da1bc77aa8496c9f5f650e8617ac63abedfed74f09505071db81ea5ff15a51", func := "pleach/pleachlaw.WorkMerges", spec := "workMerges", inPlace := ["slices.overlaps[pleach/api.Row]", "slices.overlaps[pleach/api.Head]"], unfollowed := true, recurses := true, apart := false, narrowed := true }
def WorkMergesUptoSaid : Prop := workMergesUptoRow.holds Tryz.pinned (OpenSpec.upto workMergesSpec)

/-- 'pleachlaw.LogDoes', WHERE WHAT IT READS IS OF BULK AT MOST 1048576: true; the input reads as it did. -/
def logDoesUptoRow : OpenClaim := { program := "ytdclpbdmdpakkaagreat", sum := "f6da1bc77aa8496c9f5f650e8617ac63abedfed74f09505071db81ea5ff15a51", func := "pleach/pleachlaw.LogDoes", spec := "logDoes", inPlace := ["slices.overlaps[pleach/api.Row]", "slices.overlaps[pleach/api.Head]"], unfollowed := true, recurses := true, apart := false, narrowed := true }
def LogDoesUptoSaid : Prop := logDoesUptoRow.holds Tryz.pinned (OpenSpec.upto logDoesSpec)

/-- 'pleachlaw.LogReplays', WHERE WHAT IT READS IS OF BULK AT MOST 1048576: true; the input reads as it did. -/
def logReplaysUptoRow : OpenClaim := { program := "ytdclpbdmdpakkaagreat", sum := "f6da1bc77aa8496c9f5f650e8617ac63abedfed74f09505071db81ea5ff15a51", func := "pleach/pleachlaw.LogReplays", spec := "logReplays", inPlace := ["slices.overlaps[pleach/api.Row]", "slices.overlaps[pleach/api.Head]"], unfollowed := true, recurses := true, apart := false, narrowed := true }
def LogReplaysUptoSaid : Prop := logReplaysUptoRow.holds Tryz.pinned (OpenSpec.upto logReplaysSpec)

/-- 'pleachlaw.LogRecovers', WHERE WHAT IT READS IS OF BULK AT MOST 1048576: true; the input reads as it did. -/
def logRecoversUptoRow : OpenClaim := { program := "ytdclpbdmdpakkaagreat", sum := "f6da1bc77aa8496c9f5f650e8617ac63abedfed74f09505071db81ea5ff15a51", func := "pleach/pleachlaw.LogRecovers", spec := "logRecovers", inPlace := ["slices.overlaps[pleach/api.Row]", "slices.overlaps[pleach/api.Head]"], unfollowed := true, recurses := true, apart := false, narrowed := true }
def LogRecoversUptoSaid : Prop := logRecoversUptoRow.holds Tryz.pinned (OpenSpec.upto logRecoversSpec)

/-- 'pleachlaw.LogKept', WHERE WHAT IT READS IS OF BULK AT MOST 1048576: true; the input reads as it did. -/
def logKeptUptoRow : OpenClaim := { program := "ytdclpbdmdpakkaagreat", sum := "f6da1bc77aa8496c9f5f650e8617ac63abedfed74f09505071db81ea5ff15a51", func := "pleach/pleachlaw.LogKept", spec := "logKept", inPlace := ["slices.overlaps[pleach/api.Row]", "slices.overlaps[pleach/api.Head]"], unfollowed := true, recurses := true, apart := false, narrowed := true }
def LogKeptUptoSaid : Prop := logKeptUptoRow.holds Tryz.pinned (OpenSpec.upto logKeptSpec)

end Rows
end Go.Proofs.YtdclpbdmdpakkaaGreat
