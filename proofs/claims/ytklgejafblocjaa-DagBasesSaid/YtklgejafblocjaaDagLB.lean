/- The walk of DagBases. -/
import Derived.Test.YtklgejafblocjaaDagL
namespace Go.Pch
open Go.RowKit Go.Proofs

set_option maxRecDepth 100000 in
set_option maxHeartbeats 1000000 in
theorem lawDagBases (v : Value) (l : List Commit) (a b : Int) (w : World) (h : Sl tCommit w (fun _ => True) v l) (ha : i64ok a) (hb : i64ok b) :
    Calls Try.prog 4 #[v, .int .i64 a, .int .i64 b] w (Ret w fun r _ => r = .bool true) := by
  by_cases h1 : thereErr l a = 0
  · by_cases h2 : thereErr l b = 0
    · obtain ⟨hok, p, rfl, hp⟩ := there_ok h1
      obtain ⟨_, q, rfl, hq⟩ := there_ok h2
      have hT : thereAll l [(p : Int), (q : Int)] = 0 := by rw [thereAll_two, if_neg (by simpa using h1), h2]
      have HP := keepBack (show basesP l p q = (basesL l p q, 0) by rw [basesP, if_pos hT, Int.toNat_natCast, Int.toNat_natCast])
      have H1 := keepBack h1
      have H2 := keepBack h2
      clear h1 h2 hT
      go_enter Try.func4, Try.ntmps4
      go_wp2_with fail
      refine (dagBases_of v l p q _ w h ha hb HP.out).mono ?_; rintro e w1 ⟨_, rfl, ⟨x, rfl, hx⟩, b1⟩
      go_wp2_with fail
      refine (refCommitError_of v l p _ w1 (h.call b1) H1.out).mono ?_; rintro e w2 ⟨rfl, d2⟩
      have b2 := b1.trans (d2.below.mono b1.size)
      go_wp2_with fail
      refine (refCommitError_of v l q _ w2 (h.call b2) H2.out).mono ?_; rintro e w3 ⟨rfl, d3⟩
      have b3 := b2.trans (d3.below.mono b2.size)
      go_wp2_with fail
      refine (refBasesOf hok p q hp hq v _ w3 (h.call b3)).mono ?_; rintro e w4 ⟨y, rfl, hy, b4⟩
      have c4 := b3.trans (b4.mono b3.size)
      go_wp2_with fail
      refine (dagBegun w4).mono ?_; rintro e w5 ⟨_, rfl, rfl, b5⟩
      have c5 := c4.trans (b5.mono c4.size)
      go_wp2_with fail
      refine (refSameInts_of (c := true) _ _ _ _ _ _ w5 ((((hx.call d2.below).call d3.below).call b4).call b5) (hy.call b5) (by simp)).mono ?_; rintro e w6 ⟨rfl, d6⟩
      have c6 := c5.trans (d6.below.mono c5.size)
      go_wp2
      go_ret
      exact ⟨_, rfl, rfl, c6⟩
    · obtain ⟨te, hte⟩ : ∃ c, thereErr l b = c := ⟨_, rfl⟩
      have hT : thereAll l [a, b] = te := by rw [thereAll_two, if_neg (by simpa using h1), hte]
      have hne : (te == 0) = false := by rw [← hte]; simpa using h2
      have hne0 : te ≠ 0 := by rw [← hte]; exact h2
      have HP := keepBack (show basesP l a b = ([], te) by rw [basesP, if_neg (by rw [hT]; exact hne0), hT])
      have H1 := keepBack h1
      have H2 := keepBack hte
      clear h1 h2 hT hte hne0
      go_enter Try.func4, Try.ntmps4
      go_wp2_with fail
      refine (dagBases_of v l a b _ w h ha hb HP.out).mono ?_; rintro e w1 ⟨_, rfl, ⟨x, rfl, hx⟩, b1⟩
      go_wp2_with fail
      refine (refCommitError_of v l a _ w1 (h.call b1) H1.out).mono ?_; rintro e w2 ⟨rfl, d2⟩
      have b2 := b1.trans (d2.below.mono b1.size)
      go_wp2_with fail
      refine (refCommitError_of v l b _ w2 (h.call b2) H2.out).mono ?_; rintro e w3 ⟨rfl, d3⟩
      have b3 := b2.trans (d3.below.mono b2.size)
      go_wp2_with fail
      refine (dagBegun w3).mono ?_; rintro e w5 ⟨_, rfl, rfl, b5⟩
      have c5 := b3.trans (b5.mono b3.size)
      go_wp2_with fail
      refine (refSameInts_of (c := true) _ _ _ _ _ _ w5 (((hx.call d2.below).call d3.below).call b5) (Sl.nil tInt w5 (fun _ => True)) (by simp)).mono ?_; rintro e w6 ⟨rfl, d6⟩
      have c6 := c5.trans (d6.below.mono c5.size)
      go_wp2
      go_ret
      exact ⟨_, rfl, rfl, c6⟩
  · obtain ⟨te, hte⟩ : ∃ c, thereErr l a = c := ⟨_, rfl⟩
    have hT : thereAll l [a, b] = te := by rw [thereAll_two, if_pos h1, hte]
    have hne : (te == 0) = false := by rw [← hte]; simpa using h1
    have hne0 : te ≠ 0 := by rw [← hte]; exact h1
    have HP := keepBack (show basesP l a b = ([], te) by rw [basesP, if_neg (by rw [hT]; exact hne0), hT])
    have H1 := keepBack hte
    clear h1 hT hte hne0
    go_enter Try.func4, Try.ntmps4
    go_wp2_with fail
    refine (dagBases_of v l a b _ w h ha hb HP.out).mono ?_; rintro e w1 ⟨_, rfl, ⟨x, rfl, hx⟩, b1⟩
    go_wp2_with fail
    refine (refCommitError_of v l a _ w1 (h.call b1) H1.out).mono ?_; rintro e w2 ⟨rfl, d2⟩
    have b2 := b1.trans (d2.below.mono b1.size)
    go_wp2_with fail
    refine (dagBegun w2).mono ?_; rintro e w5 ⟨_, rfl, rfl, b5⟩
    have c5 := b2.trans (b5.mono b2.size)
    go_wp2_with fail
    refine (refSameInts_of (c := true) _ _ _ _ _ _ w5 ((hx.call d2.below).call b5) (Sl.nil tInt w5 (fun _ => True)) (by simp)).mono ?_; rintro e w6 ⟨rfl, d6⟩
    have c6 := c5.trans (d6.below.mono c5.size)
    go_wp2
    go_ret
    exact ⟨_, rfl, rfl, c6⟩

end Go.Pch
