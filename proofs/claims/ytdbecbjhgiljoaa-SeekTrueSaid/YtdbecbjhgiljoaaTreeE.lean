/- The walk of the document's BuildOf. -/
import Derived.Test.YtdbecbjhgiljoaaTreeC
namespace Go.Pch
open Go.RowKit Go.Proofs

/-- C1: Build's answer. -/
def buildP (l : List Row) : List (List (List Row)) × Int := if rowsErr l = 0 then (treeL l, 0) else ([], rowsErr l)

set_option maxRecDepth 100000 in
theorem refBuildOf (v : Value) (l : List Row) (S : Blk) (w : World) (h : Sl tRow w S v l) :
    Calls Try.prog 26 #[v] w (Ret w fun r w' => ∃ x, r = .tuple #[x, .int .i64 (buildP l).2] ∧ Sl tRow.slice.slice w' (fun k => w.heap.size ≤ k) x (buildP l).1) := by
  by_cases he : rowsErr l = 0
  · have hP : buildP l = (treeL l, 0) := by rw [buildP, if_pos he]
    go_enter Try.func26, Try.ntmps26
    go_wp2_with fail
    refine (refRowsError v l S w h).mono ?_; rintro e w1 ⟨rfl, d1⟩
    rw [he]
    go_wp2_with fail
    refine (refBuild v l S w1 (h.call d1.below) he).mono ?_; rintro e w2 ⟨x, rfl, hx, b2⟩
    have s1 := d1.below.size
    go_wp2
    go_ret2
    exact ⟨_, rfl, ⟨_, by rw [hP]; rfl, by rw [hP]; exact hx.mono fun k hk _ => by omega⟩, d1.below.trans (b2.mono s1)⟩
  · have he' : (rowsErr l != 0) = true := by simp [he]
    have hP : buildP l = ([], rowsErr l) := by rw [buildP, if_neg he]
    go_enter Try.func26, Try.ntmps26
    go_wp2_with fail
    refine (refRowsError v l S w h).mono ?_; rintro e w1 ⟨rfl, d1⟩
    go_wp2
    go_ret2
    exact ⟨_, rfl, ⟨_, by rw [hP]; rfl, by rw [hP]; exact Sl.nil _ _ _⟩, d1.below⟩

end Go.Pch
