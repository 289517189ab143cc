/- The walks of tree.Check, Rows, Top, Root, and of TreeError and RootOf. -/
import Derived.Test.YtipondhhchicjaaTreeF
namespace Go.Pch
open Go.RowKit Go.Proofs
set_option maxRecDepth 100000

theorem chunkOf_nil (w : World) : Calls Try.prog 92 #[.slice none 0 0] w (Ret w fun r _ => r = .int .i64 1) :=
  chunkOf _ [] (fun _ => True) w (Sl.nil _ _ _) rfl



theorem eqfTree_of {c : Bool} (v u : Value) (l m : List (List (List Row))) (S S' : Blk) (w : World) (h : Sl tRow.slice.slice w S v l) (g : Sl tRow.slice.slice w S' u m) (hc : decide (l = m) = c) :
    Calls Try.prog 67 #[v, u, .func (.func 68) #[] #[]] w (Quiet w (.bool c)) := hc ▸ eqfTree v u l m S S' w h g

set_option maxHeartbeats 400000 in
theorem treeCheck (v : Value) (t : List (List (List Row))) (S : Blk) (w : World) (h : Sl tRow.slice.slice w S v t) (hl : (flatL t).length ≤ 2000000) :
    Calls Try.prog 37 #[v] w (Ret w fun r _ => r = .int .i64 (treeErr t)) := by
  by_cases he : rowsErr (flatL t) = 0
  · cases hq : decide (treeL (flatL t) = t) with
    | true =>
      have HE := keepBack (treeErr_of he (by simpa using hq))
      go_enter Try.func37, Try.ntmps37
      go_wp2_with fail
      refine (treeFlat v t S w h hl).mono ?_; rintro e w1 ⟨r, rfl, hr, b1⟩
      have s1 := b1.size
      go_wp2_with fail
      refine (rowsCheck r _ _ w1 hr).mono ?_; rintro e w2 ⟨_, rfl, rfl, b2⟩
      rw [he]
      have s2 := b2.size
      have b02 := b1.trans (b2.mono s1)
      go_wp2_with fail
      refine (treeOf r _ _ w2 (hr.call b2) he).mono ?_; rintro e w3 ⟨x, rfl, hx, b3⟩
      have s3 := b3.size
      have b03 := b02.trans (b3.mono (by omega))
      go_wp2_with fail
      refine (eqfTree_of x v _ t _ S w3 hx (h.call b03) hq).mono ?_; rintro e w4 ⟨rfl, d4⟩
      go_wp2
      go_ret
      exact ⟨_, rfl, by rw [HE.out]; rfl, b03.trans (d4.below.mono (by omega))⟩
    | false =>
      have HE := keepBack (treeErr_no (t := t) (by simp at hq; exact fun h => hq h.2))
      go_enter Try.func37, Try.ntmps37
      go_wp2_with fail
      refine (treeFlat v t S w h hl).mono ?_; rintro e w1 ⟨r, rfl, hr, b1⟩
      have s1 := b1.size
      go_wp2_with fail
      refine (rowsCheck r _ _ w1 hr).mono ?_; rintro e w2 ⟨_, rfl, rfl, b2⟩
      rw [he]
      have s2 := b2.size
      have b02 := b1.trans (b2.mono s1)
      go_wp2_with fail
      refine (treeOf r _ _ w2 (hr.call b2) he).mono ?_; rintro e w3 ⟨x, rfl, hx, b3⟩
      have s3 := b3.size
      have b03 := b02.trans (b3.mono (by omega))
      go_wp2_with fail
      refine (eqfTree_of x v _ t _ S w3 hx (h.call b03) hq).mono ?_; rintro e w4 ⟨rfl, d4⟩
      go_wp2
      go_ret
      exact ⟨_, rfl, by rw [HE.out]; rfl, b03.trans (d4.below.mono (by omega))⟩
  · have he' : (rowsErr (flatL t) != 0) = true := by simp [he]
    have HE := keepBack (treeErr_no (t := t) fun h => he h.1)
    go_enter Try.func37, Try.ntmps37
    go_wp2_with fail
    refine (treeFlat v t S w h hl).mono ?_; rintro e w1 ⟨r, rfl, hr, b1⟩
    have s1 := b1.size
    go_wp2_with fail
    refine (rowsCheck r _ _ w1 hr).mono ?_; rintro e w2 ⟨_, rfl, rfl, b2⟩
    go_wp2
    go_ret
    exact ⟨_, rfl, by rw [HE.out]; rfl, b1.trans (b2.mono s1)⟩

set_option maxHeartbeats 400000 in
theorem refTreeError (v : Value) (t : List (List (List Row))) (S : Blk) (w : World) (h : Sl tRow.slice.slice w S v t) (hl : (flatL t).length ≤ 2000000) :
    Calls Try.prog 55 #[v] w (Ret w fun r _ => r = .int .i64 (treeErr t)) := by
  by_cases he : rowsErr (flatL t) = 0
  · cases hq : decide (treeL (flatL t) = t) with
    | true =>
      have HE := keepBack (treeErr_of he (by simpa using hq))
      go_enter Try.func55, Try.ntmps55
      go_wp2_with fail
      refine (refRowsOf v t S w h hl).mono ?_; rintro e w1 ⟨r, rfl, hr, b1⟩
      have s1 := b1.size
      go_wp2_with fail
      refine (refRowsError r _ _ w1 hr).mono ?_; rintro e w2 ⟨rfl, d2⟩
      rw [he]
      have s2 := d2.below.size
      have b02 := b1.trans (d2.below.mono s1)
      go_wp2_with fail
      refine (refBuild r _ _ w2 (hr.call d2.below) he).mono ?_; rintro e w3 ⟨x, rfl, hx, b3⟩
      have s3 := b3.size
      have b03 := b02.trans (b3.mono (by omega))
      go_wp2_with fail
      refine (refSameTrees_of x v _ t _ S w3 hx (h.call b03) hq).mono ?_; rintro e w4 ⟨rfl, d4⟩
      go_wp2
      go_ret
      exact ⟨_, rfl, by rw [HE.out]; rfl, b03.trans (d4.below.mono (by omega))⟩
    | false =>
      have HE := keepBack (treeErr_no (t := t) (by simp at hq; exact fun h => hq h.2))
      go_enter Try.func55, Try.ntmps55
      go_wp2_with fail
      refine (refRowsOf v t S w h hl).mono ?_; rintro e w1 ⟨r, rfl, hr, b1⟩
      have s1 := b1.size
      go_wp2_with fail
      refine (refRowsError r _ _ w1 hr).mono ?_; rintro e w2 ⟨rfl, d2⟩
      rw [he]
      have s2 := d2.below.size
      have b02 := b1.trans (d2.below.mono s1)
      go_wp2_with fail
      refine (refBuild r _ _ w2 (hr.call d2.below) he).mono ?_; rintro e w3 ⟨x, rfl, hx, b3⟩
      have s3 := b3.size
      have b03 := b02.trans (b3.mono (by omega))
      go_wp2_with fail
      refine (refSameTrees_of x v _ t _ S w3 hx (h.call b03) hq).mono ?_; rintro e w4 ⟨rfl, d4⟩
      go_wp2
      go_ret
      exact ⟨_, rfl, by rw [HE.out]; rfl, b03.trans (d4.below.mono (by omega))⟩
  · have he' : (rowsErr (flatL t) != 0) = true := by simp [he]
    have HE := keepBack (treeErr_no (t := t) fun h => he h.1)
    go_enter Try.func55, Try.ntmps55
    go_wp2_with fail
    refine (refRowsOf v t S w h hl).mono ?_; rintro e w1 ⟨r, rfl, hr, b1⟩
    have s1 := b1.size
    go_wp2_with fail
    refine (refRowsError r _ _ w1 hr).mono ?_; rintro e w2 ⟨rfl, d2⟩
    go_wp2
    go_ret
    exact ⟨_, rfl, by rw [HE.out]; rfl, b1.trans (d2.below.mono s1)⟩

theorem treeRowsC (v : Value) (t : List (List (List Row))) (S : Blk) (w : World) (h : Sl tRow.slice.slice w S v t) (hl : (flatL t).length ≤ 2000000) :
    Calls Try.prog 65 #[v] w (Ret w fun r w' => ∃ x, r = .tuple #[x, .int .i64 (treeRows t).2] ∧ Sl tRow w' (fun k => w.heap.size ≤ k) x (treeRows t).1) := by
  by_cases he : treeErr t = 0
  · have hP : treeRows t = (flatL t, 0) := by rw [treeRows, if_pos he]
    go_enter Try.func65, Try.ntmps65
    go_wp2_with fail
    refine (treeCheck v t S w h hl).mono ?_; rintro e w1 ⟨_, rfl, rfl, b1⟩
    rw [he]
    go_wp2_with fail
    refine (treeFlat v t S w1 (h.call b1) hl).mono ?_; rintro e w2 ⟨x, rfl, hx, b2⟩
    have s1 := b1.size
    go_wp2
    go_ret2
    exact ⟨_, rfl, ⟨_, by rw [hP]; rfl, by rw [hP]; exact hx.mono fun k hk _ => by omega⟩, b1.trans (b2.mono s1)⟩
  · have he' : (treeErr t != 0) = true := by simp [he]
    have hP : treeRows t = ([], treeErr t) := by rw [treeRows, if_neg he]
    go_enter Try.func65, Try.ntmps65
    go_wp2_with fail
    refine (treeCheck v t S w h hl).mono ?_; rintro e w1 ⟨_, rfl, rfl, b1⟩
    go_wp2
    go_ret2
    exact ⟨_, rfl, ⟨_, by rw [hP]; rfl, by rw [hP]; exact Sl.nil _ _ _⟩, b1⟩


end Go.Pch
