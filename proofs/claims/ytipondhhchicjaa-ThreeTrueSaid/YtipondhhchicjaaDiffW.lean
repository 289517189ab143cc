/- The walks of the laws DiffTells, DiffPatches, DiffTrue, DiffNone. -/
import Derived.Test.YtipondhhchicjaaDiffH
import Derived.Test.YtipondhhchicjaaDiffG
import Derived.Test.YtipondhhchicjaaTreeB
namespace Go.Pch
open Go.RowKit Go.Proofs
set_option maxRecDepth 100000

theorem lawDiffTells (v : Value) (a : List (List (List Row))) (u : Value) (b : List (List (List Row))) (w : World) (h : Sl tRow.slice.slice w (fun _ => True) v a) (g : Sl tRow.slice.slice w (fun _ => True) u b) (hla : (flatL a).length ≤ 2000000) (hlb : (flatL b).length ≤ 2000000) :
    Calls Try.prog 6 #[v, u] w (Ret w fun r _ => r = .bool true) := by
  go_enter Try.func6, Try.ntmps6
  go_wp2_with fail
  refine (diffOf_is v u a b _ _ w h g hla hlb rfl).mono ?_; rintro e w1 ⟨_, rfl, ⟨x1, rfl, h1⟩, b1⟩
  have s1 := b1.size
  go_wp2_with fail
  refine (refDiffOf v u a b _ _ w1 (h.call b1) (g.call b1) hla hlb).mono ?_; rintro e w2 ⟨_, rfl, ⟨x2, rfl, h2⟩, b2⟩
  have b02 := b1.trans (b2.mono s1)
  have s2 := b02.size
  have h12 := h1.call b2
  generalize diffP a b = p at *
  go_wp2_with fail
  refine (diffBegun w2).mono ?_; rintro e w3 ⟨_, rfl, rfl, b3⟩
  have b03 := b02.trans (b3.mono s2)
  go_wp2_with fail
  refine (refSameChanges_of (c := true) x1 x2 _ _ _ _ w3 (h12.call b3) (h2.call b3) (by simp)).mono ?_; rintro e w4 ⟨rfl, d4⟩
  go_wp2
  go_ret
  exact ⟨_, rfl, rfl, b03.trans (d4.below.mono b03.size)⟩

theorem lawDiffPatches (v : Value) (l : List Row) (u : Value) (d : List Change) (w : World) (h : Sl tRow w (fun _ => True) v l) (g : Sl tChange w (fun _ => True) u d) :
    Calls Try.prog 7 #[v, u] w (Ret w fun r _ => r = .bool true) := by
  go_enter Try.func7, Try.ntmps7
  go_wp2_with fail
  refine (diffPatch v u l d _ _ w h g).mono ?_; rintro e w1 ⟨_, rfl, ⟨x1, rfl, h1⟩, b1⟩
  have s1 := b1.size
  go_wp2_with fail
  refine (diffBack u d _ w1 (g.call b1)).mono ?_; rintro e w2 ⟨_, rfl, ⟨x2, rfl, h2⟩, b2⟩
  have b02 := b1.trans (b2.mono s1)
  have s2 := b02.size
  have h12 := h1.call b2
  go_wp2_with fail
  refine (refPatchOf v u l d _ _ w2 (h.call b02) (g.call b02)).mono ?_; rintro e w3 ⟨_, rfl, ⟨x3, rfl, h3⟩, b3⟩
  have b03 := b02.trans (b3.mono s2)
  have s3 := b03.size
  have h13 := h12.call b3
  have h23 := h2.call b3
  go_wp2_with fail
  refine (refBackOf u d _ w3 (g.call b03)).mono ?_; rintro e w4 ⟨_, rfl, ⟨x4, rfl, h4⟩, b4⟩
  have b04 := b03.trans (b4.mono s3)
  have s4 := b04.size
  have h14 := h13.call b4
  have h24 := h23.call b4
  have h34 := h3.call b4
  generalize patchP l d = p at *
  generalize backP d = q at *
  clear h1 h2 h3 h12 h13 h23
  go_wp2_with fail
  refine (diffBegun w4).mono ?_; rintro e w5 ⟨_, rfl, rfl, b5⟩
  have b05 := b04.trans (b5.mono s4)
  have s5 := b05.size
  go_wp2_with fail
  refine (refSameRows_of (c := true) x1 x3 _ _ _ _ w5 (h14.call b5) (h34.call b5) (by simp)).mono ?_; rintro e w6 ⟨rfl, d6⟩
  have b6 := d6.below
  have b06 := b05.trans (b6.mono s5)
  have s6 := b06.size
  go_wp2_with fail
  refine (refSameChanges_of (c := true) x2 x4 _ _ _ _ w6 ((h24.call b5).call b6) ((h4.call b5).call b6) (by simp)).mono ?_; rintro e w7 ⟨rfl, d7⟩
  go_wp2
  go_ret
  exact ⟨_, rfl, rfl, b06.trans (d7.below.mono s6)⟩

set_option maxHeartbeats 1000000 in
theorem lawDiffTrue (v : Value) (a : List Row) (u : Value) (b : List Row) (w : World) (h : Sl tRow w (fun _ => True) v a) (g : Sl tRow w (fun _ => True) u b) :
    Calls Try.prog 8 #[v, u] w (Ret w fun r _ => r = .bool true) := by
  by_cases ha : rowsErr a = 0
  · by_cases hb : rowsErr b = 0
    · go_enter Try.func8, Try.ntmps8
      go_wp2_with fail
      refine (treeBuildOk v _ w h ha).mono ?_; rintro e w1 ⟨_, rfl, ⟨x1, rfl, h1⟩, b1⟩
      have s1 := b1.size
      go_wp2_with fail
      refine (treeBuildOk u _ w1 (g.call b1) hb).mono ?_; rintro e w2 ⟨_, rfl, ⟨x2, rfl, h2⟩, b2⟩
      have b02 := b1.trans (b2.mono s1)
      have s2 := b02.size
      have h12 := h1.call b2
      go_wp2_with fail
      refine (diffOf_is x1 x2 _ _ _ _ w2 h12 h2 (small_tree ha) (small_tree hb) (diff_trees ha hb)).mono ?_; rintro e w3 ⟨_, rfl, ⟨x3, rfl, h3⟩, b3⟩
      have b03 := b02.trans (b3.mono s2)
      have s3 := b03.size
      have h13 := h12.call b3
      have h23 := h2.call b3
      go_wp2_with fail
      refine (diffPatch_is v x3 a _ _ _ w3 (h.call b03) h3 (patch_diff ha hb)).mono ?_; rintro e w4 ⟨_, rfl, ⟨x4, rfl, h4⟩, b4⟩
      have b04 := b03.trans (b4.mono s3)
      have s4 := b04.size
      have h14 := h13.call b4
      have h24 := h23.call b4
      have h34 := h3.call b4
      go_wp2_with fail
      refine (diffBack_is x3 _ _ w4 h34 (back_diff ha hb)).mono ?_; rintro e w5 ⟨_, rfl, ⟨x5, rfl, h5⟩, b5⟩
      have b05 := b04.trans (b5.mono s4)
      have s5 := b05.size
      have h15 := h14.call b5
      have h25 := h24.call b5
      have h45 := h4.call b5
      clear h12 h13 h14 h23 h24 h34 h1 h2 h3 h4
      go_wp2_with fail
      refine (diffPatch_is u x5 b _ _ _ w5 (g.call b05) h5 (patch_diff hb ha)).mono ?_; rintro e w6 ⟨_, rfl, ⟨x6, rfl, h6⟩, b6⟩
      have b06 := b05.trans (b6.mono s5)
      have s6 := b06.size
      have h16 := h15.call b6
      have h26 := h25.call b6
      have h46 := h45.call b6
      have h56 := h5.call b6
      go_wp2_with fail
      refine (diffOf_is x2 x1 _ _ _ _ w6 h26 h16 (small_tree hb) (small_tree ha) (diff_trees hb ha)).mono ?_; rintro e w7 ⟨_, rfl, ⟨x7, rfl, h7⟩, b7⟩
      have b07 := b06.trans (b7.mono s6)
      have s7 := b07.size
      have h47 := h46.call b7
      have h57 := h56.call b7
      have h67 := h6.call b7
      clear h15 h16 h25 h26 h45 h46 h56 h5 h6
      go_wp2_with fail
      refine (diffBegun w7).mono ?_; rintro e w8 ⟨_, rfl, rfl, b8⟩
      have b08 := b07.trans (b8.mono s7)
      have s8 := b08.size
      go_wp2_with fail
      refine (refSameRows_of (c := true) x4 u _ _ _ _ w8 (h47.call b8) (g.call b08) (by simp)).mono ?_; rintro e w9 ⟨rfl, d9⟩
      have b9 := d9.below
      have b09 := b08.trans (b9.mono s8)
      have s9 := b09.size
      go_wp2_with fail
      refine (refSameRows_of (c := true) x6 v _ _ _ _ w9 ((h67.call b8).call b9) (h.call b09) (by simp)).mono ?_; rintro e w10 ⟨rfl, d10⟩
      have b10 := d10.below
      have b010 := b09.trans (b10.mono s9)
      have s10 := b010.size
      go_wp2_with fail
      refine (refSameChanges_of (c := true) x5 x7 _ _ _ _ w10 (((h57.call b8).call b9).call b10) (((h7.call b8).call b9).call b10) (by simp)).mono ?_; rintro e w11 ⟨rfl, d11⟩
      go_wp2
      go_ret
      exact ⟨_, rfl, rfl, b010.trans (d11.below.mono s10)⟩
    · have hq : (rowsErr b != 0) = true := by simp [hb]
      go_enter Try.func8, Try.ntmps8
      go_wp2_with fail
      refine (treeBuildOk v _ w h ha).mono ?_; rintro e w1 ⟨_, rfl, ⟨x1, rfl, h1⟩, b1⟩
      have s1 := b1.size
      go_wp2_with fail
      refine (treeBuildBad u _ w1 (g.call b1) hb).mono ?_; rintro e w2 ⟨_, rfl, ⟨x2, rfl, h2⟩, b2⟩
      have b02 := b1.trans (b2.mono s1)
      have s2 := b02.size
      clear hb
      go_wp2_with fail
      refine (diffBegun w2).mono ?_; rintro e w3 ⟨_, rfl, rfl, b3⟩
      go_wp2
      go_ret
      exact ⟨_, rfl, rfl, b02.trans (b3.mono s2)⟩
  · have hq : (rowsErr a != 0) = true := by simp [ha]
    by_cases hb : rowsErr b = 0
    · go_enter Try.func8, Try.ntmps8
      go_wp2_with fail
      refine (treeBuildBad v _ w h ha).mono ?_; rintro e w1 ⟨_, rfl, ⟨x1, rfl, h1⟩, b1⟩
      have s1 := b1.size
      go_wp2_with fail
      refine (treeBuildOk u _ w1 (g.call b1) hb).mono ?_; rintro e w2 ⟨_, rfl, ⟨x2, rfl, h2⟩, b2⟩
      have b02 := b1.trans (b2.mono s1)
      have s2 := b02.size
      clear ha
      go_wp2_with fail
      refine (diffBegun w2).mono ?_; rintro e w3 ⟨_, rfl, rfl, b3⟩
      go_wp2
      go_ret
      exact ⟨_, rfl, rfl, b02.trans (b3.mono s2)⟩
    · go_enter Try.func8, Try.ntmps8
      go_wp2_with fail
      refine (treeBuildBad v _ w h ha).mono ?_; rintro e w1 ⟨_, rfl, ⟨x1, rfl, h1⟩, b1⟩
      have s1 := b1.size
      go_wp2_with fail
      refine (treeBuildBad u _ w1 (g.call b1) hb).mono ?_; rintro e w2 ⟨_, rfl, ⟨x2, rfl, h2⟩, b2⟩
      have b02 := b1.trans (b2.mono s1)
      have s2 := b02.size
      clear ha hb
      go_wp2_with fail
      refine (diffBegun w2).mono ?_; rintro e w3 ⟨_, rfl, rfl, b3⟩
      go_wp2
      go_ret
      exact ⟨_, rfl, rfl, b02.trans (b3.mono s2)⟩

end Go.Pch
