/- The walks of slices.Equal at rows, slices.EqualFunc at levels and trees, tree.same. The walks of package tree on whole trees, and of what the document says of them. -/
import Derived.Test.YtjjkdpjjaijmbaaGreatDoorDg33
import Derived.Test.YtjjkdpjjaijmbaaGreatDoorDg34
import Derived.Test.YtjjkdpjjaijmbaaGreatDoorDg9
section
namespace Go.Pch
open Go.RowKit Go.Proofs
end Go.Pch
end

section
namespace Go.Pch
open Go.RowKit Go.Proofs
set_option maxRecDepth 100000
end Go.Pch
end
