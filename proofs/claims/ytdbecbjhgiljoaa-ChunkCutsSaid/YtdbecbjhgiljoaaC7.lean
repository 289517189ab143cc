/- The walks of the laws on chunks. -/
import Derived.Test.YtdbecbjhgiljoaaC6
namespace Go.Pch
open Go.RowKit Go.Proofs

set_option maxHeartbeats 400000 in
theorem lawChunkCuts (v : Value) (l : List Row) (n : Int) (w : World) (h : Sl tRow w (fun _ => True) v l) (_hn : i64ok n) :
    Calls Try.prog 3 #[v, .int .i64 n] w (Ret w fun r _ => r = .bool true) := by
  go_enter Try.func3, Try.ntmps3
  go_wp2_with fail
  refine (chunkCut v l n _ w h).mono ?_; rintro e w1 ⟨_, rfl, ⟨x1, rfl, h1⟩, b1⟩
  go_wp2_with fail
  refine (refCutOf v l n _ w1 (h.call b1)).mono ?_; rintro e w2 ⟨_, rfl, ⟨x2, rfl, h2⟩, b2⟩
  go_wp2_with fail
  refine (chunkBegun w2).mono ?_; rintro e w3 ⟨_, rfl, rfl, b3⟩
  have s1 := b1.size
  have s2 := b2.size
  go_wp2_with fail
  refine (refSameLevel x1 x2 _ _ _ _ w3 (h1.call (b2.trans (b3.mono (by omega)))) (h2.call b3)).mono ?_; rintro e w4 ⟨rfl, d4⟩
  go_wp2
  go_ret
  exact ⟨_, rfl, rfl, ((b1.trans (b2.mono (by omega))).trans (b3.mono (by omega))).trans (d4.below.mono (by have := b3.size; omega))⟩

end Go.Pch
