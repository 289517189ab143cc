/- The walks of the laws on commits. -/
import Derived.Test.YtklgejafblocjaaDagG
namespace Go.Pch
open Go.RowKit Go.Proofs

theorem refCommitError_of {c : Int} (v : Value) (l : List Commit) (n : Int) (S : Blk) (w : World) (h : Sl tCommit w S v l) (hc : thereErr l n = c) :
    Calls Try.prog 10 #[v, .int .i64 n] w (Quiet w (.int .i64 c)) := hc ▸ refCommitError v l n S w h
theorem refCommitsError_of {c : Int} (v : Value) (l : List Commit) (S : Blk) (w : World) (h : Sl tCommit w S v l) (hc : commitsErr l = c) :
    Calls Try.prog 14 #[v] w (Quiet w (.int .i64 c)) := hc ▸ refCommitsError v l S w h

set_option maxRecDepth 100000 in
set_option maxHeartbeats 1000000 in
theorem lawDagTells (v : Value) (l : List Commit) (n : Int) (w : World) (h : Sl tCommit w (fun _ => True) v l) (hn : i64ok n) :
    Calls Try.prog 3 #[v, .int .i64 n] w (Ret w fun r _ => r = .bool true) := by
  obtain ⟨ce, hce⟩ : ∃ c, commitsErr l = c := ⟨_, rfl⟩
  have Hce := keepBack hce
  clear hce
  by_cases he : thereErr l n = 0
  · obtain ⟨hok, q, rfl, hq⟩ := there_ok he
    have hP : aboveP l q = (aboveL l q, 0) := by rw [aboveP, if_pos he, Int.toNat_natCast]
    have hlen : (aboveL l q).length = l.length := by simp [aboveL]
    have h14 := hok.1
    have HE := keepBack he
    have HP := keepBack hP
    clear he hP
    go_enter Try.func3, Try.ntmps3
    go_wp2_with fail
    refine (dagAbove_of v l q _ w h hn HP.out).mono ?_; rintro e w1 ⟨_, rfl, ⟨x, rfl, hx⟩, b1⟩
    go_wp2_with fail
    refine (refCommitError_of v l q _ w1 (h.call b1) HE.out).mono ?_; rintro e w2 ⟨rfl, d2⟩
    have b2 := b1.trans (d2.below.mono b1.size)
    go_wp2_with fail
    refine (refAboveOf hok q hq v _ w2 (h.call b2)).mono ?_; rintro e w3 ⟨_, rfl, ⟨g, g1, g2, rfl, Z, hZ, fZ⟩, b3⟩
    have c3 := b2.trans (b3.mono b2.size)
    have hxx := (hx.call d2.below).call b3
    go_wp2_with fail
    refine (dagBegun w3).mono ?_; rintro e w4 ⟨_, rfl, rfl, b4⟩
    have c4 := c3.trans (b4.mono c3.size)
    go_wp2_with fail
    refine (dagCheck_of v l _ w4 (h.call c4) Hce.out).mono ?_; rintro e w5 ⟨_, rfl, rfl, b5⟩
    have c5 := c4.trans (b5.mono c4.size)
    go_wp2_with fail
    refine (refCommitsError_of v l _ w5 (h.call c5) Hce.out).mono ?_; rintro e w6 ⟨rfl, d6⟩
    have c6 := c5.trans (d6.below.mono c5.size)
    go_wp2_with fail
    have hZ6 := ((hZ.call b4).call b5).drawn d6
    have hsZ := hZ6.sl (S := fun _ => True) trivial (by rw [fZ.1]; simp [maxLen]; omega) l.length fZ.1
    rw [show Z = aboveL l q from fZ.all] at hsZ
    refine (refSameBools_of (c := true) _ _ _ _ _ _ w6 (((hxx.call b4).call b5).call d6.below) hsZ (by simp)).mono ?_; rintro e w7 ⟨rfl, d7⟩
    have c7 := c6.trans (d7.below.mono c6.size)
    go_wp2
    go_ret
    exact ⟨_, rfl, rfl, c7⟩
  · obtain ⟨te, hte⟩ : ∃ c, thereErr l n = c := ⟨_, rfl⟩
    have hP : aboveP l n = ([], te) := by rw [aboveP, if_neg he, hte]
    have hne : (te == 0) = false := by rw [← hte]; simpa using he
    have HE := keepBack hte
    have HP := keepBack hP
    clear hte he hP
    go_enter Try.func3, Try.ntmps3
    go_wp2_with fail
    refine (dagAbove_of v l n _ w h hn HP.out).mono ?_; rintro e w1 ⟨_, rfl, ⟨x, rfl, hx⟩, b1⟩
    go_wp2_with fail
    refine (refCommitError_of v l n _ w1 (h.call b1) HE.out).mono ?_; rintro e w2 ⟨rfl, d2⟩
    have b2 := b1.trans (d2.below.mono b1.size)
    have hxx := (hx.call d2.below)
    go_wp2_with fail
    refine (dagBegun w2).mono ?_; rintro e w4 ⟨_, rfl, rfl, b4⟩
    have c4 := b2.trans (b4.mono b2.size)
    go_wp2_with fail
    refine (dagCheck_of v l _ w4 (h.call c4) Hce.out).mono ?_; rintro e w5 ⟨_, rfl, rfl, b5⟩
    have c5 := c4.trans (b5.mono c4.size)
    go_wp2_with fail
    refine (refCommitsError_of v l _ w5 (h.call c5) Hce.out).mono ?_; rintro e w6 ⟨rfl, d6⟩
    have c6 := c5.trans (d6.below.mono c5.size)
    go_wp2_with fail
    refine (refSameBools_of (c := true) _ _ _ _ _ _ w6 (((hxx.call b4).call b5).call d6.below) (Sl.nil tBool w6 (fun _ => True)) (by simp)).mono ?_; rintro e w7 ⟨rfl, d7⟩
    have c7 := c6.trans (d7.below.mono c6.size)
    go_wp2
    go_ret
    exact ⟨_, rfl, rfl, c7⟩

end Go.Pch
