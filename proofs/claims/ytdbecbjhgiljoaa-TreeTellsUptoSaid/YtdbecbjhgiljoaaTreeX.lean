/- The walk of the law TreeTells, where the tree's rows are not too many. -/
import Derived.Test.YtdbecbjhgiljoaaTreeI
namespace Go.Pch
open Go.RowKit Go.Proofs

set_option maxRecDepth 100000 in
set_option maxHeartbeats 1000000 in
theorem lawTreeTells (v : Value) (t : List (List (List Row))) (w : World) (h : Sl tRow.slice.slice w (fun _ => True) v t) (hl : (flatL t).length ≤ 2000000) :
    Calls Try.prog 7 #[v] w (Ret w fun r _ => r = .bool true) := by
  go_enter Try.func7, Try.ntmps7
  go_wp2_with fail
  refine (treeRowsC v t _ w h hl).mono ?_; rintro e w1 ⟨_, rfl, ⟨x1, rfl, h1⟩, b1⟩
  have s1 := b1.size
  go_wp2_with fail
  refine (treeRootC v t _ w1 (h.call b1) hl).mono ?_; rintro e w2 ⟨_, rfl, rfl, b2⟩
  have s2 := b2.size
  have b02 := b1.trans (b2.mono s1)
  go_wp2_with fail
  refine (refTreeError v t _ w2 (h.call b02) hl).mono ?_; rintro e w3 ⟨_, rfl, rfl, b3⟩
  have s3 := b3.size
  have b03 := b02.trans (b3.mono (by omega))
  have h13 := h1.call (b2.trans (b3.mono s2))
  by_cases he : treeErr t = 0
  · have hR : treeRows t = (flatL t, 0) := by rw [treeRows, if_pos he]
    have hO : treeRoot t = (topL t, 0) := by rw [treeRoot, if_pos he]
    rw [hR] at h1 h13 ⊢
    rw [hO, he]
    clear hR hO
    go_wp2_with fail
    refine (refRowsOf v t _ w3 (h.call b03) hl).mono ?_; rintro e w4 ⟨x4, rfl, h4, b4⟩
    have s4 := b4.size
    have b04 := b03.trans (b4.mono (by omega))
    go_wp2_with fail
    refine (refRootOf v t _ w4 (h.call b04) he).mono ?_; rintro e w5 ⟨rfl, d5⟩
    have b5 := d5.below
    have s5 := b5.size
    have b05 := b04.trans (b5.mono (by omega))
    go_wp2_with fail
    refine (treeBegun w5).mono ?_; rintro e w6 ⟨_, rfl, rfl, b6⟩
    have s6 := b6.size
    have b06 := b05.trans (b6.mono (by omega))
    go_wp2_with fail
    refine (treeCheck v t _ w6 (h.call b06) hl).mono ?_; rintro e w7 ⟨_, rfl, rfl, b7⟩
    have s7 := b7.size
    have b07 := b06.trans (b7.mono (by omega))
    rw [he]
    have h17 := h13.call (((b4.trans (b5.mono s4)).trans (b6.mono (by omega))).trans (b7.mono (by omega)))
    have h47 := h4.call ((b5.trans (b6.mono s5)).trans (b7.mono (by omega)))
    go_wp2_with fail
    refine (refSameRows_of (c := true) x1 x4 _ _ _ _ w7 h17 h47 (by simp)).mono ?_; rintro e w8 ⟨rfl, d8⟩
    go_wp2
    go_ret
    exact ⟨_, rfl, rfl, b07.trans (d8.below.mono (by omega))⟩
  · have hR : treeRows t = ([], treeErr t) := by rw [treeRows, if_neg he]
    have hO : treeRoot t = (0, treeErr t) := by rw [treeRoot, if_neg he]
    have he' : (treeErr t == 0) = false := by simp [he]
    rw [hR] at h1 h13 ⊢
    rw [hO]
    clear hR hO
    go_wp2_with fail
    refine (treeBegun w3).mono ?_; rintro e w6 ⟨_, rfl, rfl, b6⟩
    have s6 := b6.size
    have b06 := b03.trans (b6.mono (by omega))
    go_wp2_with fail
    refine (treeCheck v t _ w6 (h.call b06) hl).mono ?_; rintro e w7 ⟨_, rfl, rfl, b7⟩
    have s7 := b7.size
    have b07 := b06.trans (b7.mono (by omega))
    go_wp2_with fail
    refine (refSameRows_of (c := true) x1 _ [] [] _ (fun _ => True) w7 ((h13.call b6).call b7) (Sl.nil tRow w7 _) (by simp)).mono ?_; rintro e w8 ⟨rfl, d8⟩
    go_wp2
    go_ret
    exact ⟨_, rfl, rfl, b07.trans (d8.below.mono (by omega))⟩

end Go.Pch
