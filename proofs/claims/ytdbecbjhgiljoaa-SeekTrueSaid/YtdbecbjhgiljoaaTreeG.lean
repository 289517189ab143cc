/- The walks of tree.Check, Rows, Top, Root, and of TreeError and RootOf. -/
import Derived.Test.YtdbecbjhgiljoaaTreeF
namespace Go.Pch
open Go.RowKit Go.Proofs

theorem chunkOf_nil (w : World) : Calls Try.prog 53 #[.slice none 0 0] w (Ret w fun r _ => r = .int .i64 1) :=
  chunkOf _ [] (fun _ => True) w (Sl.nil _ _ _) rfl

theorem treeTop (v : Value) (t : List (List (List Row))) (S : Blk) (w : World) (h : Sl tRow.slice.slice w S v t) (ht : treeErr t = 0) :
    Calls Try.prog 62 #[v] w (Ret w fun r _ => r = .int .i64 (topL t)) := by
  obtain ⟨ao, cap, rfl, hcap, hmax, hnil⟩ := h.shape
  unfold maxLen at hmax
  by_cases he : t = []
  · subst he
    go_enter Try.func62, Try.ntmps62
    go_wp2_with fail
    refine (chunkOf_nil w).mono ?_; rintro e w1 ⟨_, rfl, rfl, b1⟩
    go_wp2
    go_ret
    exact ⟨_, rfl, rfl, b1⟩
  · obtain ⟨init, c, hX, hc0, hcf, htop⟩ := treeErr_last ht he
    have hlen : t.length = init.length + 1 := by rw [hX]; simp
    have hget : t[t.length - 1]? = some [c] := by rw [hX]; simp
    have HT := keepBack htop
    obtain ⟨b, o, a2, c2, hix, _, hbs, hsx, hc2, hcm2, hc00⟩ := h.idxSlAt aTree ((t.length : Int) - 1) (t.length - 1) [c] 1 (by omega) hget rfl
    obtain ⟨b', o', a3, c3, hix', _, hbs', hsk0, hc3, hcm3, hc000⟩ := hsx.idxSlAt aLev 0 0 c c.length rfl rfl rfl
    have hq : ((t.length : Int) == 0) = false := by simp; omega
    have hpos : 0 < t.length := by omega
    clear hX hlen hget htop
    go_enter Try.func62, Try.ntmps62
    go_wp2_with fail
    refine (chunkOf _ c _ w hsk0 hcf).mono ?_; rintro e w1 ⟨_, rfl, rfl, b1⟩
    go_wp2
    go_ret
    exact ⟨_, rfl, by rw [HT.out]; rfl, b1⟩

theorem refRootOf (v : Value) (t : List (List (List Row))) (S : Blk) (w : World) (h : Sl tRow.slice.slice w S v t) (ht : treeErr t = 0) :
    Calls Try.prog 33 #[v] w (Quiet w (.int .i64 (topL t))) := by
  obtain ⟨ao, cap, rfl, hcap, hmax, hnil⟩ := h.shape
  unfold maxLen at hmax
  by_cases he : t = []
  · subst he
    go_enter Try.func33, Try.ntmps33
    go_wp2
    go_ret
    exact ⟨rfl, .refl _⟩
  · obtain ⟨init, c, hX, hc0, hcf, htop⟩ := treeErr_last ht he
    have hlen : t.length = init.length + 1 := by rw [hX]; simp
    have hget : t[t.length - 1]? = some [c] := by rw [hX]; simp
    have HT := keepBack htop
    obtain ⟨b, o, a2, c2, hix, _, hbs, hsx, hc2, hcm2, hc00⟩ := h.idxSlAt aTree ((t.length : Int) - 1) (t.length - 1) [c] 1 (by omega) hget rfl
    obtain ⟨b', o', a3, c3, hix', _, hbs', hsk0, hc3, hcm3, hc000⟩ := hsx.idxSlAt aLev 0 0 c c.length rfl rfl rfl
    have hq : ((t.length : Int) == 0) = false := by simp; omega
    have hpos : 0 < t.length := by omega
    clear hX hlen hget htop
    go_enter Try.func33, Try.ntmps33
    go_wp2_with fail
    refine (refSum _ c _ w hsk0 hcf).mono ?_; rintro e w1 ⟨rfl, d1⟩
    go_wp2
    go_ret
    exact ⟨by rw [HT.out]; rfl, d1⟩

theorem eqfTree_of {c : Bool} (v u : Value) (l m : List (List (List Row))) (S S' : Blk) (w : World) (h : Sl tRow.slice.slice w S v l) (g : Sl tRow.slice.slice w S' u m) (hc : decide (l = m) = c) :
    Calls Try.prog 63 #[v, u, .func (.func 64) #[] #[]] w (Quiet w (.bool c)) := hc ▸ eqfTree v u l m S S' w h g

set_option maxHeartbeats 400000 in
theorem treeCheck (v : Value) (t : List (List (List Row))) (S : Blk) (w : World) (h : Sl tRow.slice.slice w S v t) (hl : (flatL t).length ≤ 2000000) :
    Calls Try.prog 34 #[v] w (Ret w fun r _ => r = .int .i64 (treeErr t)) := by
  by_cases he : rowsErr (flatL t) = 0
  · cases hq : decide (treeL (flatL t) = t) with
    | true =>
      have HE := keepBack (treeErr_of he (by simpa using hq))
      go_enter Try.func34, Try.ntmps34
      go_wp2_with fail
      refine (treeFlat v t S w h hl).mono ?_; rintro e w1 ⟨r, rfl, hr, b1⟩
      have s1 := b1.size
      go_wp2_with fail
      refine (rowsCheck r _ _ w1 hr).mono ?_; rintro e w2 ⟨_, rfl, rfl, b2⟩
      rw [he]
      have s2 := b2.size
      have b02 := b1.trans (b2.mono s1)
      go_wp2_with fail
      refine (treeOf r _ _ w2 (hr.call b2) he).mono ?_; rintro e w3 ⟨x, rfl, hx, b3⟩
      have s3 := b3.size
      have b03 := b02.trans (b3.mono (by omega))
      go_wp2_with fail
      refine (eqfTree_of x v _ t _ S w3 hx (h.call b03) hq).mono ?_; rintro e w4 ⟨rfl, d4⟩
      go_wp2
      go_ret
      exact ⟨_, rfl, by rw [HE.out]; rfl, b03.trans (d4.below.mono (by omega))⟩
    | false =>
      have HE := keepBack (treeErr_no (t := t) (by simp at hq; exact fun h => hq h.2))
      go_enter Try.func34, Try.ntmps34
      go_wp2_with fail
      refine (treeFlat v t S w h hl).mono ?_; rintro e w1 ⟨r, rfl, hr, b1⟩
      have s1 := b1.size
      go_wp2_with fail
      refine (rowsCheck r _ _ w1 hr).mono ?_; rintro e w2 ⟨_, rfl, rfl, b2⟩
      rw [he]
      have s2 := b2.size
      have b02 := b1.trans (b2.mono s1)
      go_wp2_with fail
      refine (treeOf r _ _ w2 (hr.call b2) he).mono ?_; rintro e w3 ⟨x, rfl, hx, b3⟩
      have s3 := b3.size
      have b03 := b02.trans (b3.mono (by omega))
      go_wp2_with fail
      refine (eqfTree_of x v _ t _ S w3 hx (h.call b03) hq).mono ?_; rintro e w4 ⟨rfl, d4⟩
      go_wp2
      go_ret
      exact ⟨_, rfl, by rw [HE.out]; rfl, b03.trans (d4.below.mono (by omega))⟩
  · have he' : (rowsErr (flatL t) != 0) = true := by simp [he]
    have HE := keepBack (treeErr_no (t := t) fun h => he h.1)
    go_enter Try.func34, Try.ntmps34
    go_wp2_with fail
    refine (treeFlat v t S w h hl).mono ?_; rintro e w1 ⟨r, rfl, hr, b1⟩
    have s1 := b1.size
    go_wp2_with fail
    refine (rowsCheck r _ _ w1 hr).mono ?_; rintro e w2 ⟨_, rfl, rfl, b2⟩
    go_wp2
    go_ret
    exact ⟨_, rfl, by rw [HE.out]; rfl, b1.trans (b2.mono s1)⟩

set_option maxHeartbeats 400000 in
theorem refTreeError (v : Value) (t : List (List (List Row))) (S : Blk) (w : World) (h : Sl tRow.slice.slice w S v t) (hl : (flatL t).length ≤ 2000000) :
    Calls Try.prog 31 #[v] w (Ret w fun r _ => r = .int .i64 (treeErr t)) := by
  by_cases he : rowsErr (flatL t) = 0
  · cases hq : decide (treeL (flatL t) = t) with
    | true =>
      have HE := keepBack (treeErr_of he (by simpa using hq))
      go_enter Try.func31, Try.ntmps31
      go_wp2_with fail
      refine (refRowsOf v t S w h hl).mono ?_; rintro e w1 ⟨r, rfl, hr, b1⟩
      have s1 := b1.size
      go_wp2_with fail
      refine (refRowsError r _ _ w1 hr).mono ?_; rintro e w2 ⟨rfl, d2⟩
      rw [he]
      have s2 := d2.below.size
      have b02 := b1.trans (d2.below.mono s1)
      go_wp2_with fail
      refine (refBuild r _ _ w2 (hr.call d2.below) he).mono ?_; rintro e w3 ⟨x, rfl, hx, b3⟩
      have s3 := b3.size
      have b03 := b02.trans (b3.mono (by omega))
      go_wp2_with fail
      refine (refSameTrees_of x v _ t _ S w3 hx (h.call b03) hq).mono ?_; rintro e w4 ⟨rfl, d4⟩
      go_wp2
      go_ret
      exact ⟨_, rfl, by rw [HE.out]; rfl, b03.trans (d4.below.mono (by omega))⟩
    | false =>
      have HE := keepBack (treeErr_no (t := t) (by simp at hq; exact fun h => hq h.2))
      go_enter Try.func31, Try.ntmps31
      go_wp2_with fail
      refine (refRowsOf v t S w h hl).mono ?_; rintro e w1 ⟨r, rfl, hr, b1⟩
      have s1 := b1.size
      go_wp2_with fail
      refine (refRowsError r _ _ w1 hr).mono ?_; rintro e w2 ⟨rfl, d2⟩
      rw [he]
      have s2 := d2.below.size
      have b02 := b1.trans (d2.below.mono s1)
      go_wp2_with fail
      refine (refBuild r _ _ w2 (hr.call d2.below) he).mono ?_; rintro e w3 ⟨x, rfl, hx, b3⟩
      have s3 := b3.size
      have b03 := b02.trans (b3.mono (by omega))
      go_wp2_with fail
      refine (refSameTrees_of x v _ t _ S w3 hx (h.call b03) hq).mono ?_; rintro e w4 ⟨rfl, d4⟩
      go_wp2
      go_ret
      exact ⟨_, rfl, by rw [HE.out]; rfl, b03.trans (d4.below.mono (by omega))⟩
  · have he' : (rowsErr (flatL t) != 0) = true := by simp [he]
    have HE := keepBack (treeErr_no (t := t) fun h => he h.1)
    go_enter Try.func31, Try.ntmps31
    go_wp2_with fail
    refine (refRowsOf v t S w h hl).mono ?_; rintro e w1 ⟨r, rfl, hr, b1⟩
    have s1 := b1.size
    go_wp2_with fail
    refine (refRowsError r _ _ w1 hr).mono ?_; rintro e w2 ⟨rfl, d2⟩
    go_wp2
    go_ret
    exact ⟨_, rfl, by rw [HE.out]; rfl, b1.trans (d2.below.mono s1)⟩

theorem treeRowsC (v : Value) (t : List (List (List Row))) (S : Blk) (w : World) (h : Sl tRow.slice.slice w S v t) (hl : (flatL t).length ≤ 2000000) :
    Calls Try.prog 29 #[v] w (Ret w fun r w' => ∃ x, r = .tuple #[x, .int .i64 (treeRows t).2] ∧ Sl tRow w' (fun k => w.heap.size ≤ k) x (treeRows t).1) := by
  by_cases he : treeErr t = 0
  · have hP : treeRows t = (flatL t, 0) := by rw [treeRows, if_pos he]
    go_enter Try.func29, Try.ntmps29
    go_wp2_with fail
    refine (treeCheck v t S w h hl).mono ?_; rintro e w1 ⟨_, rfl, rfl, b1⟩
    rw [he]
    go_wp2_with fail
    refine (treeFlat v t S w1 (h.call b1) hl).mono ?_; rintro e w2 ⟨x, rfl, hx, b2⟩
    have s1 := b1.size
    go_wp2
    go_ret2
    exact ⟨_, rfl, ⟨_, by rw [hP]; rfl, by rw [hP]; exact hx.mono fun k hk _ => by omega⟩, b1.trans (b2.mono s1)⟩
  · have he' : (treeErr t != 0) = true := by simp [he]
    have hP : treeRows t = ([], treeErr t) := by rw [treeRows, if_neg he]
    go_enter Try.func29, Try.ntmps29
    go_wp2_with fail
    refine (treeCheck v t S w h hl).mono ?_; rintro e w1 ⟨_, rfl, rfl, b1⟩
    go_wp2
    go_ret2
    exact ⟨_, rfl, ⟨_, by rw [hP]; rfl, by rw [hP]; exact Sl.nil _ _ _⟩, b1⟩

theorem treeRootC (v : Value) (t : List (List (List Row))) (S : Blk) (w : World) (h : Sl tRow.slice.slice w S v t) (hl : (flatL t).length ≤ 2000000) :
    Calls Try.prog 30 #[v] w (Ret w fun r _ => r = .tuple #[.int .i64 (treeRoot t).1, .int .i64 (treeRoot t).2]) := by
  by_cases he : treeErr t = 0
  · have hP : treeRoot t = (topL t, 0) := by rw [treeRoot, if_pos he]
    go_enter Try.func30, Try.ntmps30
    go_wp2_with fail
    refine (treeCheck v t S w h hl).mono ?_; rintro e w1 ⟨_, rfl, rfl, b1⟩
    rw [he]
    go_wp2_with fail
    refine (treeTop v t S w1 (h.call b1) he).mono ?_; rintro e w2 ⟨x, rfl, rfl, b2⟩
    have s1 := b1.size
    go_wp2
    go_ret2
    exact ⟨_, rfl, by rw [hP]; rfl, b1.trans (b2.mono s1)⟩
  · have he' : (treeErr t != 0) = true := by simp [he]
    have hP : treeRoot t = (0, treeErr t) := by rw [treeRoot, if_neg he]
    go_enter Try.func30, Try.ntmps30
    go_wp2_with fail
    refine (treeCheck v t S w h hl).mono ?_; rintro e w1 ⟨_, rfl, rfl, b1⟩
    go_wp2
    go_ret2
    exact ⟨_, rfl, by rw [hP]; rfl, b1⟩

end Go.Pch
