/- The laws WorkPuts, WorkHeads and WorkMerges: the walks. (gen_wkx.py) -/
import Derived.Test.YtdclpbdmdpakkaaGreatWm43
section
namespace Go.Pch
open Go.RowKit Go.Proofs
set_option maxRecDepth 100000
set_option linter.unusedVariables false

theorem refPutTo_of {c : Repo × Int} (v u : Value) (r : Repo) (s : ByteArray) (d : List Change) (S S' : Blk) (w : World) (h : Rp w S v r) (g : Sl tChange w S' u d) (hc : jPut r s d = c) :
    Calls Tryz.prog 43 #[v, .string s, u] w (Ret w (RefRet c)) := hc ▸ refPutTo v u r s d S S' w h g
theorem refBranchOf_of {c : Repo × Int} (v : Value) (r : Repo) (s f : ByteArray) (S : Blk) (w : World) (hz : s.size ≤ maxLen) (h : Rp w S v r) (hc : jBranch r s f = c) :
    Calls Tryz.prog 44 #[v, .string s, .string f] w (Ret w (RefRet c)) := hc ▸ refBranchOf v r s f S w hz h
theorem refDropOf_of {c : Repo × Int} (v : Value) (r : Repo) (s : ByteArray) (S : Blk) (w : World) (h : Rp w S v r) (hc : jDrop r s = c) :
    Calls Tryz.prog 45 #[v, .string s] w (Ret w (RefRet c)) := hc ▸ refDropOf v r s S w h
theorem refJoinOf_of {c : Repo × List Int × Int} (v : Value) (r : Repo) (s f : ByteArray) (S : Blk) (w : World) (h : Rp w S v r) (hc : jJoin r s f = c) :
    Calls Tryz.prog 9 #[v, .string s, .string f] w (Ret w (RefJoin c)) := hc ▸ refJoinOf v r s f S w h

set_option maxHeartbeats 2000000 in
theorem lawWorkMerges (v : Value) (r : Repo) (n f : ByteArray) (w : World) (h : Rp w (fun _ => True) v r) :
    Calls Tryz.prog 3 #[v, .string n, .string f] w (Ret w fun x _ => x = .bool true) := by
  have HP := keepBack (⟨_, rfl⟩ : ∃ p, jJoin r n f = p)
  obtain ⟨p, hp⟩ := HP.out
  clear HP
  obtain ⟨vc0, vh0, rfl, hc0_w, hh0_w⟩ := h
  obtain ⟨ac0, cc0, hvc0, _, _, _⟩ := hc0_w.shape
  obtain ⟨ah0, ch0, hvh0, _, _, _⟩ := hh0_w.shape
  obtain ⟨nc0, hnc0⟩ : ∃ n, n = r.1.length := ⟨_, rfl⟩
  obtain ⟨nh0, hnh0⟩ : ∃ n, n = r.2.length := ⟨_, rfl⟩
  rw [← hnc0] at hvc0
  rw [← hnh0] at hvh0
  clear hnc0 hnh0
  subst hvc0 hvh0
  obtain ⟨x0, hwx0⟩ : ∃ x, x = w.alloc (.cells #[.slice ac0 nc0 cc0, .slice ah0 nh0 ch0] 25) := ⟨_, rfl⟩
  have bl0 : Below w.heap.size w x0 := by rw [hwx0]; exact (Below.refl _ _).alloc (Nat.le_refl _) _
  have B0_x0 : BoxRow x0 w.heap.size (.slice ac0 nc0 cc0) (.slice ah0 nh0 ch0) := by rw [hwx0]; exact ⟨heap_alloc_new _ _⟩
  have HW0 := keepBack hwx0
  clear hwx0
  have hc0_x0 := hc0_w.call bl0
  have hh0_x0 := hh0_w.call bl0
  clear hc0_w hh0_w
  have b0x0 := bl0
  have zx0 := b0x0.size
  go_enter Tryz.func3, Tryz.ntmps3
  go_wp2_with fail
  rw [← HW0.out]
  refine (workMerge_of _ r n f _ x0 ⟨_, _, rfl, hc0_x0, hh0_x0⟩ hp).mono ?_; rintro e w1 ⟨_, rfl, ⟨y1, z1, rfl, hy1, hz1_w1⟩, bw1⟩
  have hc0_w1 := hc0_x0.call bw1
  have hh0_w1 := hh0_x0.call bw1
  have B0_w1 := B0_x0.call bw1
  clear hc0_x0 hh0_x0 B0_x0
  have b0w1 := b0x0.trans (bw1.mono zx0)
  have zw1 := b0w1.size
  obtain ⟨vc1, vh1, rfl, hc1_w1, hh1_w1⟩ := hy1
  obtain ⟨ac1, cc1, hvc1, _, _, _⟩ := hc1_w1.shape
  obtain ⟨ah1, ch1, hvh1, _, _, _⟩ := hh1_w1.shape
  obtain ⟨nc1, hnc1⟩ : ∃ n, n = p.1.1.length := ⟨_, rfl⟩
  obtain ⟨nh1, hnh1⟩ : ∃ n, n = p.1.2.length := ⟨_, rfl⟩
  rw [← hnc1] at hvc1
  rw [← hnh1] at hvh1
  clear hnc1 hnh1
  subst hvc1 hvh1
  obtain ⟨az1, cz1, hvz1, _, _, _⟩ := hz1_w1.shape
  obtain ⟨nz1, hnz1⟩ : ∃ n, n = p.2.1.length := ⟨_, rfl⟩
  rw [← hnz1] at hvz1
  clear hnz1
  subst hvz1
  obtain ⟨x1, hwx1⟩ : ∃ x, x = w1.alloc (.cells #[.slice ac1 nc1 cc1, .slice ah1 nh1 ch1] 25) := ⟨_, rfl⟩
  have bl1 : Below w1.heap.size w1 x1 := by rw [hwx1]; exact (Below.refl _ _).alloc (Nat.le_refl _) _
  have B1_x1 : BoxRow x1 w1.heap.size (.slice ac1 nc1 cc1) (.slice ah1 nh1 ch1) := by rw [hwx1]; exact ⟨heap_alloc_new _ _⟩
  have HW1 := keepBack hwx1
  clear hwx1
  have hc0_x1 := hc0_w1.call bl1
  have hh0_x1 := hh0_w1.call bl1
  have B0_x1 := B0_w1.call bl1
  have hc1_x1 := hc1_w1.call bl1
  have hh1_x1 := hh1_w1.call bl1
  have hz1_x1 := hz1_w1.call bl1
  clear hc0_w1 hh0_w1 B0_w1 hc1_w1 hh1_w1 hz1_w1
  have b0x1 := b0w1.trans (bl1.mono zw1)
  have zx1 := b0x1.size
  have q00 := B0_x1.cell0
  have q01 := B0_x1.cell1
  rw [HW1.out] at q00 q01
  go_wp2_with fail
  rw [← HW1.out]
  clear q00 q01
  refine (refJoinOf_of _ r n f _ x1 ⟨_, _, rfl, hc0_x1, hh0_x1⟩ hp).mono ?_; rintro e w2 ⟨_, rfl, ⟨y2, z2, rfl, hy2, hz2_w2⟩, bw2⟩
  have hc0_w2 := hc0_x1.call bw2
  have hh0_w2 := hh0_x1.call bw2
  have B0_w2 := B0_x1.call bw2
  have hc1_w2 := hc1_x1.call bw2
  have hh1_w2 := hh1_x1.call bw2
  have hz1_w2 := hz1_x1.call bw2
  have B1_w2 := B1_x1.call bw2
  clear hc0_x1 hh0_x1 B0_x1 hc1_x1 hh1_x1 hz1_x1 B1_x1
  have b0w2 := b0x1.trans (bw2.mono zx1)
  have zw2 := b0w2.size
  obtain ⟨vc2, vh2, rfl, hc2_w2, hh2_w2⟩ := hy2
  obtain ⟨ac2, cc2, hvc2, _, _, _⟩ := hc2_w2.shape
  obtain ⟨ah2, ch2, hvh2, _, _, _⟩ := hh2_w2.shape
  obtain ⟨nc2, hnc2⟩ : ∃ n, n = p.1.1.length := ⟨_, rfl⟩
  obtain ⟨nh2, hnh2⟩ : ∃ n, n = p.1.2.length := ⟨_, rfl⟩
  rw [← hnc2] at hvc2
  rw [← hnh2] at hvh2
  clear hnc2 hnh2
  subst hvc2 hvh2
  obtain ⟨az2, cz2, hvz2, _, _, _⟩ := hz2_w2.shape
  obtain ⟨nz2, hnz2⟩ : ∃ n, n = p.2.1.length := ⟨_, rfl⟩
  rw [← hnz2] at hvz2
  clear hnz2
  subst hvz2
  obtain ⟨x2, hwx2⟩ : ∃ x, x = w2.alloc (.cells #[.slice ac2 nc2 cc2, .slice ah2 nh2 ch2] 25) := ⟨_, rfl⟩
  have bl2 : Below w2.heap.size w2 x2 := by rw [hwx2]; exact (Below.refl _ _).alloc (Nat.le_refl _) _
  have B2_x2 : BoxRow x2 w2.heap.size (.slice ac2 nc2 cc2) (.slice ah2 nh2 ch2) := by rw [hwx2]; exact ⟨heap_alloc_new _ _⟩
  have HW2 := keepBack hwx2
  clear hwx2
  have hc0_x2 := hc0_w2.call bl2
  have hh0_x2 := hh0_w2.call bl2
  have B0_x2 := B0_w2.call bl2
  have hc1_x2 := hc1_w2.call bl2
  have hh1_x2 := hh1_w2.call bl2
  have hz1_x2 := hz1_w2.call bl2
  have B1_x2 := B1_w2.call bl2
  have hc2_x2 := hc2_w2.call bl2
  have hh2_x2 := hh2_w2.call bl2
  have hz2_x2 := hz2_w2.call bl2
  clear hc0_w2 hh0_w2 B0_w2 hc1_w2 hh1_w2 hz1_w2 B1_w2 hc2_w2 hh2_w2 hz2_w2
  have b0x2 := b0w2.trans (bl2.mono zw2)
  have zx2 := b0x2.size
  go_wp2_with fail
  rw [← HW2.out]
  refine (workBegun _).mono ?_; rintro e w3 ⟨_, rfl, rfl, bw3⟩
  have hc0_w3 := hc0_x2.call bw3
  have hh0_w3 := hh0_x2.call bw3
  have B0_w3 := B0_x2.call bw3
  have hc1_w3 := hc1_x2.call bw3
  have hh1_w3 := hh1_x2.call bw3
  have hz1_w3 := hz1_x2.call bw3
  have B1_w3 := B1_x2.call bw3
  have hc2_w3 := hc2_x2.call bw3
  have hh2_w3 := hh2_x2.call bw3
  have hz2_w3 := hz2_x2.call bw3
  have B2_w3 := B2_x2.call bw3
  clear hc0_x2 hh0_x2 B0_x2 hc1_x2 hh1_x2 hz1_x2 B1_x2 hc2_x2 hh2_x2 hz2_x2 B2_x2
  have b0w3 := b0x2.trans (bw3.mono zx2)
  have zw3 := b0w3.size
  have q10 := B1_w3.cell0
  have q11 := B1_w3.cell1
  have q20 := B2_w3.cell0
  have q21 := B2_w3.cell1
  go_wp2_with fail
  clear q10 q11 q20 q21
  refine (refSameRepos _ _ p.1 p.1 _ _ w3 ⟨_, _, rfl, hc1_w3, hh1_w3⟩ ⟨_, _, rfl, hc2_w3, hh2_w3⟩).mono ?_; rintro e w4 ⟨_, rfl, rfl, bw4⟩
  rw [decide_eq_true rfl, decide_eq_true rfl]
  have hc0_w4 := hc0_w3.call bw4
  have hh0_w4 := hh0_w3.call bw4
  have B0_w4 := B0_w3.call bw4
  have hc1_w4 := hc1_w3.call bw4
  have hh1_w4 := hh1_w3.call bw4
  have hz1_w4 := hz1_w3.call bw4
  have B1_w4 := B1_w3.call bw4
  have hc2_w4 := hc2_w3.call bw4
  have hh2_w4 := hh2_w3.call bw4
  have hz2_w4 := hz2_w3.call bw4
  have B2_w4 := B2_w3.call bw4
  clear hc0_w3 hh0_w3 B0_w3 hc1_w3 hh1_w3 hz1_w3 B1_w3 hc2_w3 hh2_w3 hz2_w3 B2_w3
  have b0w4 := b0w3.trans (bw4.mono zw3)
  have zw4 := b0w4.size
  go_wp2_with fail
  refine (refSameInts_of (c := true) _ _ p.2.1 p.2.1 _ _ w4 hz1_w4 hz2_w4 (by simp)).mono ?_; rintro e w5 ⟨rfl, d5⟩
  have b5 := d5.below
  have hc0_w5 := hc0_w4.call b5
  have hh0_w5 := hh0_w4.call b5
  have B0_w5 := B0_w4.call b5
  have hc1_w5 := hc1_w4.call b5
  have hh1_w5 := hh1_w4.call b5
  have hz1_w5 := hz1_w4.call b5
  have B1_w5 := B1_w4.call b5
  have hc2_w5 := hc2_w4.call b5
  have hh2_w5 := hh2_w4.call b5
  have hz2_w5 := hz2_w4.call b5
  have B2_w5 := B2_w4.call b5
  clear hc0_w4 hh0_w4 B0_w4 hc1_w4 hh1_w4 hz1_w4 B1_w4 hc2_w4 hh2_w4 hz2_w4 B2_w4
  have b0w5 := b0w4.trans (b5.mono zw4)
  have zw5 := b0w5.size
  go_wp2
  go_ret
  exact ⟨_, rfl, rfl, b0w5⟩

end Go.Pch
end
