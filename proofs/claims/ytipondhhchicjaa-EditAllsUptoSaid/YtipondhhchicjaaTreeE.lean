/- The walk of the document's BuildOf. -/
import Derived.Test.YtipondhhchicjaaTreeC
namespace Go.Pch
open Go.RowKit Go.Proofs

/-- C1: Build's answer. -/
def buildP (l : List Row) : List (List (List Row)) × Int := if rowsErr l = 0 then (treeL l, 0) else ([], rowsErr l)


end Go.Pch
