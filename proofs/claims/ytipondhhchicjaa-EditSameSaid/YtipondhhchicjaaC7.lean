/- The walks of the laws on chunks. -/
import Derived.Test.YtipondhhchicjaaC6
import Derived.Deep.RegionHeld3
namespace Go.Pch
open Go.RowKit Go.Proofs


/-- A struct's two cells, and what lay below, over a call. -/
theorem s3_call {W wx w3 : World} {k : Nat} {a b : Value} (h0 : wx.cell? ⟨k, 0, none⟩ = some a) (h1 : wx.cell? ⟨k, 1, none⟩ = some b) (h2 : Below W.heap.size W wx) (hb : Below wx.heap.size wx w3) :
    w3.cell? ⟨k, 0, none⟩ = some a ∧ w3.cell? ⟨k, 1, none⟩ = some b ∧ Below W.heap.size W w3 :=
  ⟨(hb.cell (p := ⟨k, 0, none⟩) (World.block_lt_of_cell? _ _ h0)).trans h0, (hb.cell (p := ⟨k, 1, none⟩) (World.block_lt_of_cell? _ _ h1)).trans h1, h2.trans (hb.mono h2.size)⟩



end Go.Pch
