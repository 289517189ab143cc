/- The laws WorkPuts, WorkHeads and WorkMerges: the walks. (gen_wkx.py) -/
import Derived.Test.YtjjkdpjjaijmbaaGreatRg29
import Derived.Test.YtjjkdpjjaijmbaaGreatRg40
section
namespace Go.Pch
open Go.RowKit Go.Proofs
set_option maxRecDepth 100000
set_option linter.unusedVariables false

theorem refPutTo_of {c : Repo × Int} (v u : Value) (r : Repo) (s : ByteArray) (d : List Change) (S S' : Blk) (w : World) (h : Rp w S v r) (g : Sl tChange w S' u d) (hc : jPut r s d = c) :
    Calls Tryz.prog 29 #[v, .string s, u] w (Ret w (RefRet w.heap.size c)) := hc ▸ refPutTo v u r s d S S' w h g
theorem refBranchOf_of {c : Repo × Int} (v : Value) (r : Repo) (s f : ByteArray) (S : Blk) (w : World) (hz : s.size ≤ maxLen) (h : Rp w S v r) (hc : jBranch r s f = c) :
    Calls Tryz.prog 30 #[v, .string s, .string f] w (Ret w (RefRet w.heap.size c)) := hc ▸ refBranchOf v r s f S w hz h
theorem refDropOf_of {c : Repo × Int} (v : Value) (r : Repo) (s : ByteArray) (S : Blk) (w : World) (h : Rp w S v r) (hc : jDrop r s = c) :
    Calls Tryz.prog 32 #[v, .string s] w (Ret w (RefRet w.heap.size c)) := hc ▸ refDropOf v r s S w h

end Go.Pch
end
