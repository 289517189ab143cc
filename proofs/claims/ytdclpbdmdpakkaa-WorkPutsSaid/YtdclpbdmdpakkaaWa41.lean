/- The laws WorkPuts, WorkHeads and WorkMerges: the walks. (gen_wkx.py) -/
import Derived.Test.YtdclpbdmdpakkaaWa35
import Derived.Test.YtdclpbdmdpakkaaWa40
section
namespace Go.Pch
open Go.RowKit Go.Proofs
set_option maxRecDepth 100000
set_option linter.unusedVariables false

theorem refPutTo_of {c : Repo × Int} (v u : Value) (r : Repo) (s : ByteArray) (d : List Change) (S S' : Blk) (w : World) (h : Rp w S v r) (g : Sl tChange w S' u d) (hc : jPut r s d = c) :
    Calls Try.prog 10 #[v, .string s, u] w (Ret w (RefRet c)) := hc ▸ refPutTo v u r s d S S' w h g
theorem refBranchOf_of {c : Repo × Int} (v : Value) (r : Repo) (s f : ByteArray) (S : Blk) (w : World) (hz : s.size ≤ maxLen) (h : Rp w S v r) (hc : jBranch r s f = c) :
    Calls Try.prog 15 #[v, .string s, .string f] w (Ret w (RefRet c)) := hc ▸ refBranchOf v r s f S w hz h
theorem refDropOf_of {c : Repo × Int} (v : Value) (r : Repo) (s : ByteArray) (S : Blk) (w : World) (h : Rp w S v r) (hc : jDrop r s = c) :
    Calls Try.prog 16 #[v, .string s] w (Ret w (RefRet c)) := hc ▸ refDropOf v r s S w h

set_option maxHeartbeats 2000000 in
theorem lawWorkPuts (v : Value) (r : Repo) (n : ByteArray) (u : Value) (d : List Change) (w : World) (h : Rp w (fun _ => True) v r) (g_w : Sl tChange w (fun _ => True) u d) :
    Calls Try.prog 3 #[v, .string n, u] w (Ret w fun x _ => x = .bool true) := by
  have HP := keepBack (⟨_, rfl⟩ : ∃ p, jPut r n d = p)
  obtain ⟨p, hp⟩ := HP.out
  clear HP
  obtain ⟨au, cu, hvu, _, _, _⟩ := g_w.shape
  generalize d.length = nu at hvu
  subst hvu
  obtain ⟨vc0, vh0, rfl, hc0_w, hh0_w⟩ := h
  obtain ⟨ac0, cc0, hvc0, _, _, _⟩ := hc0_w.shape
  obtain ⟨ah0, ch0, hvh0, _, _, _⟩ := hh0_w.shape
  obtain ⟨nc0, hnc0⟩ : ∃ n, n = r.1.length := ⟨_, rfl⟩
  obtain ⟨nh0, hnh0⟩ : ∃ n, n = r.2.length := ⟨_, rfl⟩
  rw [← hnc0] at hvc0
  rw [← hnh0] at hvh0
  clear hnc0 hnh0
  subst hvc0 hvh0
  obtain ⟨x0, hwx0⟩ : ∃ x, x = w.alloc (.cells #[.slice ac0 nc0 cc0, .slice ah0 nh0 ch0] 25) := ⟨_, rfl⟩
  have bl0 : Below w.heap.size w x0 := by rw [hwx0]; exact (Below.refl _ _).alloc (Nat.le_refl _) _
  have B0_x0 : BoxRow x0 w.heap.size (.slice ac0 nc0 cc0) (.slice ah0 nh0 ch0) := by rw [hwx0]; exact ⟨heap_alloc_new _ _⟩
  have HW0 := keepBack hwx0
  clear hwx0
  have hc0_x0 := hc0_w.call bl0
  have hh0_x0 := hh0_w.call bl0
  have g_x0 := g_w.call bl0
  clear hc0_w hh0_w g_w
  have b0x0 := bl0
  have zx0 := b0x0.size
  go_enter Try.func3, Try.ntmps3
  go_wp2_with fail
  rw [← HW0.out]
  refine (workPut_of _ _ r n d _ _ x0 ⟨_, _, rfl, hc0_x0, hh0_x0⟩ g_x0 hp).mono ?_; rintro e w1 ⟨_, rfl, ⟨y1, rfl, hy1⟩, bw1⟩
  have hc0_w1 := hc0_x0.call bw1
  have hh0_w1 := hh0_x0.call bw1
  have g_w1 := g_x0.call bw1
  have B0_w1 := B0_x0.call bw1
  clear hc0_x0 hh0_x0 g_x0 B0_x0
  have b0w1 := b0x0.trans (bw1.mono zx0)
  have zw1 := b0w1.size
  obtain ⟨vc1, vh1, rfl, hc1_w1, hh1_w1⟩ := hy1
  obtain ⟨ac1, cc1, hvc1, _, _, _⟩ := hc1_w1.shape
  obtain ⟨ah1, ch1, hvh1, _, _, _⟩ := hh1_w1.shape
  obtain ⟨nc1, hnc1⟩ : ∃ n, n = p.1.1.length := ⟨_, rfl⟩
  obtain ⟨nh1, hnh1⟩ : ∃ n, n = p.1.2.length := ⟨_, rfl⟩
  rw [← hnc1] at hvc1
  rw [← hnh1] at hvh1
  clear hnc1 hnh1
  subst hvc1 hvh1
  obtain ⟨x1, hwx1⟩ : ∃ x, x = w1.alloc (.cells #[.slice ac1 nc1 cc1, .slice ah1 nh1 ch1] 25) := ⟨_, rfl⟩
  have bl1 : Below w1.heap.size w1 x1 := by rw [hwx1]; exact (Below.refl _ _).alloc (Nat.le_refl _) _
  have B1_x1 : BoxRow x1 w1.heap.size (.slice ac1 nc1 cc1) (.slice ah1 nh1 ch1) := by rw [hwx1]; exact ⟨heap_alloc_new _ _⟩
  have HW1 := keepBack hwx1
  clear hwx1
  have hc0_x1 := hc0_w1.call bl1
  have hh0_x1 := hh0_w1.call bl1
  have g_x1 := g_w1.call bl1
  have B0_x1 := B0_w1.call bl1
  have hc1_x1 := hc1_w1.call bl1
  have hh1_x1 := hh1_w1.call bl1
  clear hc0_w1 hh0_w1 g_w1 B0_w1 hc1_w1 hh1_w1
  have b0x1 := b0w1.trans (bl1.mono zw1)
  have zx1 := b0x1.size
  have q00 := B0_x1.cell0
  have q01 := B0_x1.cell1
  rw [HW1.out] at q00 q01
  go_wp2_with fail
  rw [← HW1.out]
  clear q00 q01
  refine (refPutTo_of _ _ r n d _ _ x1 ⟨_, _, rfl, hc0_x1, hh0_x1⟩ g_x1 hp).mono ?_; rintro e w2 ⟨_, rfl, ⟨y2, rfl, hy2⟩, bw2⟩
  have hc0_w2 := hc0_x1.call bw2
  have hh0_w2 := hh0_x1.call bw2
  have g_w2 := g_x1.call bw2
  have B0_w2 := B0_x1.call bw2
  have hc1_w2 := hc1_x1.call bw2
  have hh1_w2 := hh1_x1.call bw2
  have B1_w2 := B1_x1.call bw2
  clear hc0_x1 hh0_x1 g_x1 B0_x1 hc1_x1 hh1_x1 B1_x1
  have b0w2 := b0x1.trans (bw2.mono zx1)
  have zw2 := b0w2.size
  obtain ⟨vc2, vh2, rfl, hc2_w2, hh2_w2⟩ := hy2
  obtain ⟨ac2, cc2, hvc2, _, _, _⟩ := hc2_w2.shape
  obtain ⟨ah2, ch2, hvh2, _, _, _⟩ := hh2_w2.shape
  obtain ⟨nc2, hnc2⟩ : ∃ n, n = p.1.1.length := ⟨_, rfl⟩
  obtain ⟨nh2, hnh2⟩ : ∃ n, n = p.1.2.length := ⟨_, rfl⟩
  rw [← hnc2] at hvc2
  rw [← hnh2] at hvh2
  clear hnc2 hnh2
  subst hvc2 hvh2
  obtain ⟨x2, hwx2⟩ : ∃ x, x = w2.alloc (.cells #[.slice ac2 nc2 cc2, .slice ah2 nh2 ch2] 25) := ⟨_, rfl⟩
  have bl2 : Below w2.heap.size w2 x2 := by rw [hwx2]; exact (Below.refl _ _).alloc (Nat.le_refl _) _
  have B2_x2 : BoxRow x2 w2.heap.size (.slice ac2 nc2 cc2) (.slice ah2 nh2 ch2) := by rw [hwx2]; exact ⟨heap_alloc_new _ _⟩
  have HW2 := keepBack hwx2
  clear hwx2
  have hc0_x2 := hc0_w2.call bl2
  have hh0_x2 := hh0_w2.call bl2
  have g_x2 := g_w2.call bl2
  have B0_x2 := B0_w2.call bl2
  have hc1_x2 := hc1_w2.call bl2
  have hh1_x2 := hh1_w2.call bl2
  have B1_x2 := B1_w2.call bl2
  have hc2_x2 := hc2_w2.call bl2
  have hh2_x2 := hh2_w2.call bl2
  clear hc0_w2 hh0_w2 g_w2 B0_w2 hc1_w2 hh1_w2 B1_w2 hc2_w2 hh2_w2
  have b0x2 := b0w2.trans (bl2.mono zw2)
  have zx2 := b0x2.size
  go_wp2_with fail
  rw [← HW2.out]
  refine (workBegun _).mono ?_; rintro e w3 ⟨_, rfl, rfl, bw3⟩
  have hc0_w3 := hc0_x2.call bw3
  have hh0_w3 := hh0_x2.call bw3
  have g_w3 := g_x2.call bw3
  have B0_w3 := B0_x2.call bw3
  have hc1_w3 := hc1_x2.call bw3
  have hh1_w3 := hh1_x2.call bw3
  have B1_w3 := B1_x2.call bw3
  have hc2_w3 := hc2_x2.call bw3
  have hh2_w3 := hh2_x2.call bw3
  have B2_w3 := B2_x2.call bw3
  clear hc0_x2 hh0_x2 g_x2 B0_x2 hc1_x2 hh1_x2 B1_x2 hc2_x2 hh2_x2 B2_x2
  have b0w3 := b0x2.trans (bw3.mono zx2)
  have zw3 := b0w3.size
  have q10 := B1_w3.cell0
  have q11 := B1_w3.cell1
  have q20 := B2_w3.cell0
  have q21 := B2_w3.cell1
  go_wp2_with fail
  clear q10 q11 q20 q21
  refine (refSameRepos _ _ p.1 p.1 _ _ w3 ⟨_, _, rfl, hc1_w3, hh1_w3⟩ ⟨_, _, rfl, hc2_w3, hh2_w3⟩).mono ?_; rintro e w4 ⟨_, rfl, rfl, bw4⟩
  rw [decide_eq_true rfl, decide_eq_true rfl]
  have hc0_w4 := hc0_w3.call bw4
  have hh0_w4 := hh0_w3.call bw4
  have g_w4 := g_w3.call bw4
  have B0_w4 := B0_w3.call bw4
  have hc1_w4 := hc1_w3.call bw4
  have hh1_w4 := hh1_w3.call bw4
  have B1_w4 := B1_w3.call bw4
  have hc2_w4 := hc2_w3.call bw4
  have hh2_w4 := hh2_w3.call bw4
  have B2_w4 := B2_w3.call bw4
  clear hc0_w3 hh0_w3 g_w3 B0_w3 hc1_w3 hh1_w3 B1_w3 hc2_w3 hh2_w3 B2_w3
  have b0w4 := b0w3.trans (bw4.mono zw3)
  have zw4 := b0w4.size
  go_wp2
  go_ret
  exact ⟨_, rfl, rfl, b0w4⟩

set_option maxHeartbeats 2000000 in
theorem lawWorkHeads (v : Value) (r : Repo) (n f : ByteArray) (w : World) (h : Rp w (fun _ => True) v r) (hn : n.size ≤ maxLen) (hf : f.size ≤ maxLen) :
    Calls Try.prog 4 #[v, .string n, .string f] w (Ret w fun x _ => x = .bool true) := by
  have HP := keepBack (⟨_, rfl⟩ : ∃ p, jBranch r n f = p)
  obtain ⟨p, hp⟩ := HP.out
  have HQ := keepBack (⟨_, rfl⟩ : ∃ p, jDrop r n = p)
  obtain ⟨q, hq⟩ := HQ.out
  clear HP HQ
  obtain ⟨vc0, vh0, rfl, hc0_w, hh0_w⟩ := h
  obtain ⟨ac0, cc0, hvc0, _, _, _⟩ := hc0_w.shape
  obtain ⟨ah0, ch0, hvh0, _, _, _⟩ := hh0_w.shape
  obtain ⟨nc0, hnc0⟩ : ∃ n, n = r.1.length := ⟨_, rfl⟩
  obtain ⟨nh0, hnh0⟩ : ∃ n, n = r.2.length := ⟨_, rfl⟩
  rw [← hnc0] at hvc0
  rw [← hnh0] at hvh0
  clear hnc0 hnh0
  subst hvc0 hvh0
  obtain ⟨x0, hwx0⟩ : ∃ x, x = w.alloc (.cells #[.slice ac0 nc0 cc0, .slice ah0 nh0 ch0] 25) := ⟨_, rfl⟩
  have bl0 : Below w.heap.size w x0 := by rw [hwx0]; exact (Below.refl _ _).alloc (Nat.le_refl _) _
  have B0_x0 : BoxRow x0 w.heap.size (.slice ac0 nc0 cc0) (.slice ah0 nh0 ch0) := by rw [hwx0]; exact ⟨heap_alloc_new _ _⟩
  have HW0 := keepBack hwx0
  clear hwx0
  have hc0_x0 := hc0_w.call bl0
  have hh0_x0 := hh0_w.call bl0
  clear hc0_w hh0_w
  have b0x0 := bl0
  have zx0 := b0x0.size
  go_enter Try.func4, Try.ntmps4
  go_wp2_with fail
  rw [← HW0.out]
  refine (workBranch_of _ r n f _ x0 ⟨_, _, rfl, hc0_x0, hh0_x0⟩ hp).mono ?_; rintro e w1 ⟨_, rfl, ⟨y1, rfl, hy1⟩, bw1⟩
  have hc0_w1 := hc0_x0.call bw1
  have hh0_w1 := hh0_x0.call bw1
  have B0_w1 := B0_x0.call bw1
  clear hc0_x0 hh0_x0 B0_x0
  have b0w1 := b0x0.trans (bw1.mono zx0)
  have zw1 := b0w1.size
  obtain ⟨vc1, vh1, rfl, hc1_w1, hh1_w1⟩ := hy1
  obtain ⟨ac1, cc1, hvc1, _, _, _⟩ := hc1_w1.shape
  obtain ⟨ah1, ch1, hvh1, _, _, _⟩ := hh1_w1.shape
  obtain ⟨nc1, hnc1⟩ : ∃ n, n = p.1.1.length := ⟨_, rfl⟩
  obtain ⟨nh1, hnh1⟩ : ∃ n, n = p.1.2.length := ⟨_, rfl⟩
  rw [← hnc1] at hvc1
  rw [← hnh1] at hvh1
  clear hnc1 hnh1
  subst hvc1 hvh1
  obtain ⟨x1, hwx1⟩ : ∃ x, x = w1.alloc (.cells #[.slice ac1 nc1 cc1, .slice ah1 nh1 ch1] 25) := ⟨_, rfl⟩
  have bl1 : Below w1.heap.size w1 x1 := by rw [hwx1]; exact (Below.refl _ _).alloc (Nat.le_refl _) _
  have B1_x1 : BoxRow x1 w1.heap.size (.slice ac1 nc1 cc1) (.slice ah1 nh1 ch1) := by rw [hwx1]; exact ⟨heap_alloc_new _ _⟩
  have HW1 := keepBack hwx1
  clear hwx1
  have hc0_x1 := hc0_w1.call bl1
  have hh0_x1 := hh0_w1.call bl1
  have B0_x1 := B0_w1.call bl1
  have hc1_x1 := hc1_w1.call bl1
  have hh1_x1 := hh1_w1.call bl1
  clear hc0_w1 hh0_w1 B0_w1 hc1_w1 hh1_w1
  have b0x1 := b0w1.trans (bl1.mono zw1)
  have zx1 := b0x1.size
  have q00 := B0_x1.cell0
  have q01 := B0_x1.cell1
  rw [HW1.out] at q00 q01
  go_wp2_with fail
  rw [← HW1.out]
  clear q00 q01
  refine (workDrop_of _ r n _ x1 ⟨_, _, rfl, hc0_x1, hh0_x1⟩ hq).mono ?_; rintro e w2 ⟨_, rfl, ⟨y2, rfl, hy2⟩, bw2⟩
  have hc0_w2 := hc0_x1.call bw2
  have hh0_w2 := hh0_x1.call bw2
  have B0_w2 := B0_x1.call bw2
  have hc1_w2 := hc1_x1.call bw2
  have hh1_w2 := hh1_x1.call bw2
  have B1_w2 := B1_x1.call bw2
  clear hc0_x1 hh0_x1 B0_x1 hc1_x1 hh1_x1 B1_x1
  have b0w2 := b0x1.trans (bw2.mono zx1)
  have zw2 := b0w2.size
  obtain ⟨vc2, vh2, rfl, hc2_w2, hh2_w2⟩ := hy2
  obtain ⟨ac2, cc2, hvc2, _, _, _⟩ := hc2_w2.shape
  obtain ⟨ah2, ch2, hvh2, _, _, _⟩ := hh2_w2.shape
  obtain ⟨nc2, hnc2⟩ : ∃ n, n = q.1.1.length := ⟨_, rfl⟩
  obtain ⟨nh2, hnh2⟩ : ∃ n, n = q.1.2.length := ⟨_, rfl⟩
  rw [← hnc2] at hvc2
  rw [← hnh2] at hvh2
  clear hnc2 hnh2
  subst hvc2 hvh2
  obtain ⟨x2, hwx2⟩ : ∃ x, x = w2.alloc (.cells #[.slice ac2 nc2 cc2, .slice ah2 nh2 ch2] 25) := ⟨_, rfl⟩
  have bl2 : Below w2.heap.size w2 x2 := by rw [hwx2]; exact (Below.refl _ _).alloc (Nat.le_refl _) _
  have B2_x2 : BoxRow x2 w2.heap.size (.slice ac2 nc2 cc2) (.slice ah2 nh2 ch2) := by rw [hwx2]; exact ⟨heap_alloc_new _ _⟩
  have HW2 := keepBack hwx2
  clear hwx2
  have hc0_x2 := hc0_w2.call bl2
  have hh0_x2 := hh0_w2.call bl2
  have B0_x2 := B0_w2.call bl2
  have hc1_x2 := hc1_w2.call bl2
  have hh1_x2 := hh1_w2.call bl2
  have B1_x2 := B1_w2.call bl2
  have hc2_x2 := hc2_w2.call bl2
  have hh2_x2 := hh2_w2.call bl2
  clear hc0_w2 hh0_w2 B0_w2 hc1_w2 hh1_w2 B1_w2 hc2_w2 hh2_w2
  have b0x2 := b0w2.trans (bl2.mono zw2)
  have zx2 := b0x2.size
  have q00 := B0_x2.cell0
  have q01 := B0_x2.cell1
  rw [HW2.out] at q00 q01
  go_wp2_with fail
  rw [← HW2.out]
  clear q00 q01
  refine (refBranchOf_of _ r n f _ x2 hn ⟨_, _, rfl, hc0_x2, hh0_x2⟩ hp).mono ?_; rintro e w3 ⟨_, rfl, ⟨y3, rfl, hy3⟩, bw3⟩
  have hc0_w3 := hc0_x2.call bw3
  have hh0_w3 := hh0_x2.call bw3
  have B0_w3 := B0_x2.call bw3
  have hc1_w3 := hc1_x2.call bw3
  have hh1_w3 := hh1_x2.call bw3
  have B1_w3 := B1_x2.call bw3
  have hc2_w3 := hc2_x2.call bw3
  have hh2_w3 := hh2_x2.call bw3
  have B2_w3 := B2_x2.call bw3
  clear hc0_x2 hh0_x2 B0_x2 hc1_x2 hh1_x2 B1_x2 hc2_x2 hh2_x2 B2_x2
  have b0w3 := b0x2.trans (bw3.mono zx2)
  have zw3 := b0w3.size
  obtain ⟨vc3, vh3, rfl, hc3_w3, hh3_w3⟩ := hy3
  obtain ⟨ac3, cc3, hvc3, _, _, _⟩ := hc3_w3.shape
  obtain ⟨ah3, ch3, hvh3, _, _, _⟩ := hh3_w3.shape
  obtain ⟨nc3, hnc3⟩ : ∃ n, n = p.1.1.length := ⟨_, rfl⟩
  obtain ⟨nh3, hnh3⟩ : ∃ n, n = p.1.2.length := ⟨_, rfl⟩
  rw [← hnc3] at hvc3
  rw [← hnh3] at hvh3
  clear hnc3 hnh3
  subst hvc3 hvh3
  obtain ⟨x3, hwx3⟩ : ∃ x, x = w3.alloc (.cells #[.slice ac3 nc3 cc3, .slice ah3 nh3 ch3] 25) := ⟨_, rfl⟩
  have bl3 : Below w3.heap.size w3 x3 := by rw [hwx3]; exact (Below.refl _ _).alloc (Nat.le_refl _) _
  have B3_x3 : BoxRow x3 w3.heap.size (.slice ac3 nc3 cc3) (.slice ah3 nh3 ch3) := by rw [hwx3]; exact ⟨heap_alloc_new _ _⟩
  have HW3 := keepBack hwx3
  clear hwx3
  have hc0_x3 := hc0_w3.call bl3
  have hh0_x3 := hh0_w3.call bl3
  have B0_x3 := B0_w3.call bl3
  have hc1_x3 := hc1_w3.call bl3
  have hh1_x3 := hh1_w3.call bl3
  have B1_x3 := B1_w3.call bl3
  have hc2_x3 := hc2_w3.call bl3
  have hh2_x3 := hh2_w3.call bl3
  have B2_x3 := B2_w3.call bl3
  have hc3_x3 := hc3_w3.call bl3
  have hh3_x3 := hh3_w3.call bl3
  clear hc0_w3 hh0_w3 B0_w3 hc1_w3 hh1_w3 B1_w3 hc2_w3 hh2_w3 B2_w3 hc3_w3 hh3_w3
  have b0x3 := b0w3.trans (bl3.mono zw3)
  have zx3 := b0x3.size
  have q00 := B0_x3.cell0
  have q01 := B0_x3.cell1
  rw [HW3.out] at q00 q01
  go_wp2_with fail
  rw [← HW3.out]
  clear q00 q01
  refine (refDropOf_of _ r n _ x3 ⟨_, _, rfl, hc0_x3, hh0_x3⟩ hq).mono ?_; rintro e w4 ⟨_, rfl, ⟨y4, rfl, hy4⟩, bw4⟩
  have hc0_w4 := hc0_x3.call bw4
  have hh0_w4 := hh0_x3.call bw4
  have B0_w4 := B0_x3.call bw4
  have hc1_w4 := hc1_x3.call bw4
  have hh1_w4 := hh1_x3.call bw4
  have B1_w4 := B1_x3.call bw4
  have hc2_w4 := hc2_x3.call bw4
  have hh2_w4 := hh2_x3.call bw4
  have B2_w4 := B2_x3.call bw4
  have hc3_w4 := hc3_x3.call bw4
  have hh3_w4 := hh3_x3.call bw4
  have B3_w4 := B3_x3.call bw4
  clear hc0_x3 hh0_x3 B0_x3 hc1_x3 hh1_x3 B1_x3 hc2_x3 hh2_x3 B2_x3 hc3_x3 hh3_x3 B3_x3
  have b0w4 := b0x3.trans (bw4.mono zx3)
  have zw4 := b0w4.size
  obtain ⟨vc4, vh4, rfl, hc4_w4, hh4_w4⟩ := hy4
  obtain ⟨ac4, cc4, hvc4, _, _, _⟩ := hc4_w4.shape
  obtain ⟨ah4, ch4, hvh4, _, _, _⟩ := hh4_w4.shape
  obtain ⟨nc4, hnc4⟩ : ∃ n, n = q.1.1.length := ⟨_, rfl⟩
  obtain ⟨nh4, hnh4⟩ : ∃ n, n = q.1.2.length := ⟨_, rfl⟩
  rw [← hnc4] at hvc4
  rw [← hnh4] at hvh4
  clear hnc4 hnh4
  subst hvc4 hvh4
  obtain ⟨x4, hwx4⟩ : ∃ x, x = w4.alloc (.cells #[.slice ac4 nc4 cc4, .slice ah4 nh4 ch4] 25) := ⟨_, rfl⟩
  have bl4 : Below w4.heap.size w4 x4 := by rw [hwx4]; exact (Below.refl _ _).alloc (Nat.le_refl _) _
  have B4_x4 : BoxRow x4 w4.heap.size (.slice ac4 nc4 cc4) (.slice ah4 nh4 ch4) := by rw [hwx4]; exact ⟨heap_alloc_new _ _⟩
  have HW4 := keepBack hwx4
  clear hwx4
  have hc0_x4 := hc0_w4.call bl4
  have hh0_x4 := hh0_w4.call bl4
  have B0_x4 := B0_w4.call bl4
  have hc1_x4 := hc1_w4.call bl4
  have hh1_x4 := hh1_w4.call bl4
  have B1_x4 := B1_w4.call bl4
  have hc2_x4 := hc2_w4.call bl4
  have hh2_x4 := hh2_w4.call bl4
  have B2_x4 := B2_w4.call bl4
  have hc3_x4 := hc3_w4.call bl4
  have hh3_x4 := hh3_w4.call bl4
  have B3_x4 := B3_w4.call bl4
  have hc4_x4 := hc4_w4.call bl4
  have hh4_x4 := hh4_w4.call bl4
  clear hc0_w4 hh0_w4 B0_w4 hc1_w4 hh1_w4 B1_w4 hc2_w4 hh2_w4 B2_w4 hc3_w4 hh3_w4 B3_w4 hc4_w4 hh4_w4
  have b0x4 := b0w4.trans (bl4.mono zw4)
  have zx4 := b0x4.size
  go_wp2_with fail
  rw [← HW4.out]
  refine (workBegun _).mono ?_; rintro e w5 ⟨_, rfl, rfl, bw5⟩
  have hc0_w5 := hc0_x4.call bw5
  have hh0_w5 := hh0_x4.call bw5
  have B0_w5 := B0_x4.call bw5
  have hc1_w5 := hc1_x4.call bw5
  have hh1_w5 := hh1_x4.call bw5
  have B1_w5 := B1_x4.call bw5
  have hc2_w5 := hc2_x4.call bw5
  have hh2_w5 := hh2_x4.call bw5
  have B2_w5 := B2_x4.call bw5
  have hc3_w5 := hc3_x4.call bw5
  have hh3_w5 := hh3_x4.call bw5
  have B3_w5 := B3_x4.call bw5
  have hc4_w5 := hc4_x4.call bw5
  have hh4_w5 := hh4_x4.call bw5
  have B4_w5 := B4_x4.call bw5
  clear hc0_x4 hh0_x4 B0_x4 hc1_x4 hh1_x4 B1_x4 hc2_x4 hh2_x4 B2_x4 hc3_x4 hh3_x4 B3_x4 hc4_x4 hh4_x4 B4_x4
  have b0w5 := b0x4.trans (bw5.mono zx4)
  have zw5 := b0w5.size
  have q10 := B1_w5.cell0
  have q11 := B1_w5.cell1
  have q30 := B3_w5.cell0
  have q31 := B3_w5.cell1
  go_wp2_with fail
  clear q10 q11 q30 q31
  refine (refSameRepos _ _ p.1 p.1 _ _ w5 ⟨_, _, rfl, hc1_w5, hh1_w5⟩ ⟨_, _, rfl, hc3_w5, hh3_w5⟩).mono ?_; rintro e w6 ⟨_, rfl, rfl, bw6⟩
  rw [decide_eq_true rfl, decide_eq_true rfl]
  have hc0_w6 := hc0_w5.call bw6
  have hh0_w6 := hh0_w5.call bw6
  have B0_w6 := B0_w5.call bw6
  have hc1_w6 := hc1_w5.call bw6
  have hh1_w6 := hh1_w5.call bw6
  have B1_w6 := B1_w5.call bw6
  have hc2_w6 := hc2_w5.call bw6
  have hh2_w6 := hh2_w5.call bw6
  have B2_w6 := B2_w5.call bw6
  have hc3_w6 := hc3_w5.call bw6
  have hh3_w6 := hh3_w5.call bw6
  have B3_w6 := B3_w5.call bw6
  have hc4_w6 := hc4_w5.call bw6
  have hh4_w6 := hh4_w5.call bw6
  have B4_w6 := B4_w5.call bw6
  clear hc0_w5 hh0_w5 B0_w5 hc1_w5 hh1_w5 B1_w5 hc2_w5 hh2_w5 B2_w5 hc3_w5 hh3_w5 B3_w5 hc4_w5 hh4_w5 B4_w5
  have b0w6 := b0w5.trans (bw6.mono zw5)
  have zw6 := b0w6.size
  have q20 := B2_w6.cell0
  have q21 := B2_w6.cell1
  have q40 := B4_w6.cell0
  have q41 := B4_w6.cell1
  go_wp2_with fail
  clear q20 q21 q40 q41
  refine (refSameRepos _ _ q.1 q.1 _ _ w6 ⟨_, _, rfl, hc2_w6, hh2_w6⟩ ⟨_, _, rfl, hc4_w6, hh4_w6⟩).mono ?_; rintro e w7 ⟨_, rfl, rfl, bw7⟩
  rw [decide_eq_true rfl, decide_eq_true rfl]
  have hc0_w7 := hc0_w6.call bw7
  have hh0_w7 := hh0_w6.call bw7
  have B0_w7 := B0_w6.call bw7
  have hc1_w7 := hc1_w6.call bw7
  have hh1_w7 := hh1_w6.call bw7
  have B1_w7 := B1_w6.call bw7
  have hc2_w7 := hc2_w6.call bw7
  have hh2_w7 := hh2_w6.call bw7
  have B2_w7 := B2_w6.call bw7
  have hc3_w7 := hc3_w6.call bw7
  have hh3_w7 := hh3_w6.call bw7
  have B3_w7 := B3_w6.call bw7
  have hc4_w7 := hc4_w6.call bw7
  have hh4_w7 := hh4_w6.call bw7
  have B4_w7 := B4_w6.call bw7
  clear hc0_w6 hh0_w6 B0_w6 hc1_w6 hh1_w6 B1_w6 hc2_w6 hh2_w6 B2_w6 hc3_w6 hh3_w6 B3_w6 hc4_w6 hh4_w6 B4_w6
  have b0w7 := b0w6.trans (bw7.mono zw6)
  have zw7 := b0w7.size
  go_wp2
  go_ret
  exact ⟨_, rfl, rfl, b0w7⟩

end Go.Pch
end
