/- The laws WorkBack and WorkMerged: the walks. (gen_wkz.py) -/
import Derived.Test.YtdclpbdmdpakkaaWa35
import Derived.Test.YtdclpbdmdpakkaaWa14
section
namespace Go.Pch
open Go.RowKit Go.Proofs
set_option maxRecDepth 100000
set_option linter.unusedVariables false

theorem aboveP_in {l : List Commit} (h : commitsErr l = 0) {n : Nat} (hn : n < l.length) : aboveP l (n : Int) = (aboveL l n, 0) := by
  have : thereErr l (n : Int) = 0 := by
    unfold thereErr
    simp [h]
    omega
  rw [aboveP, if_pos this]; rfl
theorem diffBack_at {c : List Change × Int} (v : Value) (d : List Change) (S : Blk) (w : World) (h : Sl tChange w S v d) (hc : backP d = c) :
    Calls Try.prog 18 #[v] w (Ret w fun r w' => ∃ x, r = .tuple #[x, .int .i64 c.2] ∧ Sl tChange w' (fun k => w.heap.size ≤ k) x c.1) := hc ▸ diffBack v d S w h

set_option maxHeartbeats 2000000 in
theorem lawWorkBack (v : Value) (r : Repo) (n : ByteArray) (u : Value) (d : List Change) (w : World) (h : Rp w (fun _ => True) v r) (g_w : Sl tChange w (fun _ => True) u d) :
    Calls Try.prog 5 #[v, .string n, u] w (Ret w fun x _ => x = .bool true) := by
  obtain ⟨p, hp⟩ : ∃ p, jPut r n d = p := ⟨_, rfl⟩
  obtain ⟨k, hk⟩ : ∃ k, headP r n = k := ⟨_, rfl⟩
  obtain ⟨au, cu, hvu, _, _, _⟩ := g_w.shape
  generalize d.length = nu at hvu
  subst hvu
  obtain ⟨vc0, vh0, rfl, hc0_w, hh0_w⟩ := h
  obtain ⟨ac0, cc0, hvc0, _, _, _⟩ := hc0_w.shape
  obtain ⟨ah0, ch0, hvh0, _, _, _⟩ := hh0_w.shape
  obtain ⟨nc0, hnc0⟩ : ∃ n, n = r.1.length := ⟨_, rfl⟩
  obtain ⟨nh0, hnh0⟩ : ∃ n, n = r.2.length := ⟨_, rfl⟩
  rw [← hnc0] at hvc0
  rw [← hnh0] at hvh0
  have HN0 := keepBack hnc0
  clear hnc0 hnh0
  subst hvc0 hvh0
  by_cases hk0 : k.2 = 0
  · by_cases hp0 : p.2 = 0
    · obtain ⟨he, a, ha, hP, _⟩ := head_there (r := r) (s := n) (by rw [hk]; exact hk0)
      obtain rfl : k = ((a : Int), 0) := hk.symm.trans hP
      obtain ⟨R1, hR1⟩ : ∃ R1, R1 = p.1 := ⟨_, rfl⟩
      have hp1 : jPut r n d = (R1, 0) := by rw [hp, hR1, ← hp0]
      obtain rfl : p = (R1, 0) := hp.symm.trans hp1
      clear hR1 hk0 hp0
      obtain ⟨hbk, hres⟩ := put_back hp1 hk
      obtain ⟨x0, hwx0⟩ : ∃ x, x = w.alloc (.cells #[.slice ac0 nc0 cc0, .slice ah0 nh0 ch0] 25) := ⟨_, rfl⟩
      have bl0 : Below w.heap.size w x0 := by rw [hwx0]; exact (Below.refl _ _).alloc (Nat.le_refl _) _
      have B0_x0 : BoxRow x0 w.heap.size (.slice ac0 nc0 cc0) (.slice ah0 nh0 ch0) := by rw [hwx0]; exact ⟨heap_alloc_new _ _⟩
      have HW0 := keepBack hwx0
      clear hwx0
      have hc0_x0 := hc0_w.call bl0
      have hh0_x0 := hh0_w.call bl0
      have g_x0 := g_w.call bl0
      clear hc0_w hh0_w g_w
      have b0x0 := bl0
      have zx0 := b0x0.size
      go_enter Try.func5, Try.ntmps5
      go_wp2_with fail
      rw [← HW0.out]
      refine (repoHead_of _ r n _ x0 ⟨_, _, rfl, hc0_x0, hh0_x0⟩ hk).mono ?_; rintro e w1 ⟨_, rfl, rfl, bw1⟩
      have hc0_w1 := hc0_x0.call bw1
      have hh0_w1 := hh0_x0.call bw1
      have g_w1 := g_x0.call bw1
      have B0_w1 := B0_x0.call bw1
      clear hc0_x0 hh0_x0 g_x0 B0_x0
      have b0w1 := b0x0.trans (bw1.mono zx0)
      have zw1 := b0w1.size
      have q00 := B0_w1.cell0
      have q01 := B0_w1.cell1
      go_wp2_with fail
      clear q00 q01
      refine (workPut_of _ _ r n d _ _ w1 ⟨_, _, rfl, hc0_w1, hh0_w1⟩ g_w1 hp).mono ?_; rintro e w2 ⟨_, rfl, ⟨y1, rfl, hy1⟩, bw2⟩
      have hc0_w2 := hc0_w1.call bw2
      have hh0_w2 := hh0_w1.call bw2
      have g_w2 := g_w1.call bw2
      have B0_w2 := B0_w1.call bw2
      clear hc0_w1 hh0_w1 g_w1 B0_w1
      have b0w2 := b0w1.trans (bw2.mono zw1)
      have zw2 := b0w2.size
      obtain ⟨vc1, vh1, rfl, hc1_w2, hh1_w2⟩ := hy1
      obtain ⟨ac1, cc1, hvc1, _, _, _⟩ := hc1_w2.shape
      obtain ⟨ah1, ch1, hvh1, _, _, _⟩ := hh1_w2.shape
      obtain ⟨nc1, hnc1⟩ : ∃ n, n = R1.1.length := ⟨_, rfl⟩
      obtain ⟨nh1, hnh1⟩ : ∃ n, n = R1.2.length := ⟨_, rfl⟩
      rw [← hnc1] at hvc1
      rw [← hnh1] at hvh1
      clear hnc1 hnh1
      subst hvc1 hvh1
      obtain ⟨x1, hwx1⟩ : ∃ x, x = w2.alloc (.cells #[.slice ac1 nc1 cc1, .slice ah1 nh1 ch1] 25) := ⟨_, rfl⟩
      have bl1 : Below w2.heap.size w2 x1 := by rw [hwx1]; exact (Below.refl _ _).alloc (Nat.le_refl _) _
      have B1_x1 : BoxRow x1 w2.heap.size (.slice ac1 nc1 cc1) (.slice ah1 nh1 ch1) := by rw [hwx1]; exact ⟨heap_alloc_new _ _⟩
      have HW1 := keepBack hwx1
      clear hwx1
      have hc0_x1 := hc0_w2.call bl1
      have hh0_x1 := hh0_w2.call bl1
      have g_x1 := g_w2.call bl1
      have B0_x1 := B0_w2.call bl1
      have hc1_x1 := hc1_w2.call bl1
      have hh1_x1 := hh1_w2.call bl1
      clear hc0_w2 hh0_w2 g_w2 B0_w2 hc1_w2 hh1_w2
      have b0x1 := b0w2.trans (bl1.mono zw2)
      have zx1 := b0x1.size
      go_wp2_with fail
      rw [← HW1.out]
      refine (diffBack_at _ d _ x1 g_x1 hbk).mono ?_; rintro e w3 ⟨_, rfl, ⟨y3, rfl, gd_w3⟩, bw3⟩
      have hc0_w3 := hc0_x1.call bw3
      have hh0_w3 := hh0_x1.call bw3
      have g_w3 := g_x1.call bw3
      have B0_w3 := B0_x1.call bw3
      have hc1_w3 := hc1_x1.call bw3
      have hh1_w3 := hh1_x1.call bw3
      have B1_w3 := B1_x1.call bw3
      clear hc0_x1 hh0_x1 g_x1 B0_x1 hc1_x1 hh1_x1 B1_x1
      have b0w3 := b0x1.trans (bw3.mono zx1)
      have zw3 := b0w3.size
      obtain ⟨ad, cd, hvd, _, _, _⟩ := gd_w3.shape
      generalize (d.map swapC).length = nd at hvd
      subst hvd
      have q10 := B1_w3.cell0
      have q11 := B1_w3.cell1
      go_wp2_with fail
      clear q10 q11
      rcases hres with hres | ⟨R2, hq, ht, hm, hl2, hnl, ps, qs, hi1, hi2⟩
      · obtain ⟨q, hq⟩ : ∃ q, jPut R1 n (d.map swapC) = q := ⟨_, rfl⟩
        rw [hq] at hres
        refine (workPut_of _ _ R1 n (d.map swapC) _ _ w3 ⟨_, _, rfl, hc1_w3, hh1_w3⟩ gd_w3 hq).mono ?_; rintro e w4 ⟨_, rfl, ⟨y2, rfl, hy2⟩, bw4⟩
        have hc0_w4 := hc0_w3.call bw4
        have hh0_w4 := hh0_w3.call bw4
        have g_w4 := g_w3.call bw4
        have B0_w4 := B0_w3.call bw4
        have hc1_w4 := hc1_w3.call bw4
        have hh1_w4 := hh1_w3.call bw4
        have B1_w4 := B1_w3.call bw4
        have gd_w4 := gd_w3.call bw4
        clear hc0_w3 hh0_w3 g_w3 B0_w3 hc1_w3 hh1_w3 B1_w3 gd_w3
        have b0w4 := b0w3.trans (bw4.mono zw3)
        have zw4 := b0w4.size
        obtain ⟨vc2, vh2, rfl, hc2_w4, hh2_w4⟩ := hy2
        obtain ⟨ac2, cc2, hvc2, _, _, _⟩ := hc2_w4.shape
        obtain ⟨ah2, ch2, hvh2, _, _, _⟩ := hh2_w4.shape
        obtain ⟨nc2, hnc2⟩ : ∃ n, n = q.1.1.length := ⟨_, rfl⟩
        obtain ⟨nh2, hnh2⟩ : ∃ n, n = q.1.2.length := ⟨_, rfl⟩
        rw [← hnc2] at hvc2
        rw [← hnh2] at hvh2
        clear hnc2 hnh2
        subst hvc2 hvh2
        rw [hres]
        obtain ⟨x2, hwx2⟩ : ∃ x, x = w4.alloc (.cells #[.slice ac2 nc2 cc2, .slice ah2 nh2 ch2] 25) := ⟨_, rfl⟩
        have bl2 : Below w4.heap.size w4 x2 := by rw [hwx2]; exact (Below.refl _ _).alloc (Nat.le_refl _) _
        have B2_x2 : BoxRow x2 w4.heap.size (.slice ac2 nc2 cc2) (.slice ah2 nh2 ch2) := by rw [hwx2]; exact ⟨heap_alloc_new _ _⟩
        have HW2 := keepBack hwx2
        clear hwx2
        have hc0_x2 := hc0_w4.call bl2
        have hh0_x2 := hh0_w4.call bl2
        have g_x2 := g_w4.call bl2
        have B0_x2 := B0_w4.call bl2
        have hc1_x2 := hc1_w4.call bl2
        have hh1_x2 := hh1_w4.call bl2
        have B1_x2 := B1_w4.call bl2
        have gd_x2 := gd_w4.call bl2
        have hc2_x2 := hc2_w4.call bl2
        have hh2_x2 := hh2_w4.call bl2
        clear hc0_w4 hh0_w4 g_w4 B0_w4 hc1_w4 hh1_w4 B1_w4 gd_w4 hc2_w4 hh2_w4
        have b0x2 := b0w4.trans (bl2.mono zw4)
        have zx2 := b0x2.size
        go_wp2_with fail
        rw [← HW2.out]
        refine (workBegun _).mono ?_; rintro e wz ⟨_, rfl, rfl, bwz⟩
        have hc0_wz := hc0_x2.call bwz
        have hh0_wz := hh0_x2.call bwz
        have g_wz := g_x2.call bwz
        have B0_wz := B0_x2.call bwz
        have hc1_wz := hc1_x2.call bwz
        have hh1_wz := hh1_x2.call bwz
        have B1_wz := B1_x2.call bwz
        have gd_wz := gd_x2.call bwz
        have hc2_wz := hc2_x2.call bwz
        have hh2_wz := hh2_x2.call bwz
        have B2_wz := B2_x2.call bwz
        clear hc0_x2 hh0_x2 g_x2 B0_x2 hc1_x2 hh1_x2 B1_x2 gd_x2 hc2_x2 hh2_x2 B2_x2
        have b0wz := b0x2.trans (bwz.mono zx2)
        have zwz := b0wz.size
        go_wp2
        go_ret
        exact ⟨_, rfl, rfl, b0wz⟩
      · have hf : Hid (True) := keepBack trivial
        refine (workPut_of _ _ R1 n (d.map swapC) _ _ w3 ⟨_, _, rfl, hc1_w3, hh1_w3⟩ gd_w3 hq).mono ?_; rintro e w4 ⟨_, rfl, ⟨y2, rfl, hy2⟩, bw4⟩
        have hc0_w4 := hc0_w3.call bw4
        have hh0_w4 := hh0_w3.call bw4
        have g_w4 := g_w3.call bw4
        have B0_w4 := B0_w3.call bw4
        have hc1_w4 := hc1_w3.call bw4
        have hh1_w4 := hh1_w3.call bw4
        have B1_w4 := B1_w3.call bw4
        have gd_w4 := gd_w3.call bw4
        clear hc0_w3 hh0_w3 g_w3 B0_w3 hc1_w3 hh1_w3 B1_w3 gd_w3
        have b0w4 := b0w3.trans (bw4.mono zw3)
        have zw4 := b0w4.size
        obtain ⟨M, hM⟩ : ∃ M : Int, M = ((r.1.length + 1 : Nat) : Int) := ⟨_, rfl⟩
        obtain ⟨vc2, vh2, rfl, hc2_w4, hh2_w4⟩ := hy2
        obtain ⟨ac2, cc2, hvc2, _, _, _⟩ := hc2_w4.shape
        obtain ⟨ah2, ch2, hvh2, _, _, _⟩ := hh2_w4.shape
        obtain ⟨nc2, hnc2⟩ : ∃ n, n = R2.1.length := ⟨_, rfl⟩
        obtain ⟨nh2, hnh2⟩ : ∃ n, n = R2.2.length := ⟨_, rfl⟩
        rw [← hnc2] at hvc2
        rw [← hnh2] at hvh2
        have f2 : M < (nc2 : Nat) := by rw [hnc2, hl2, hM]; omega
        have f3 : (a : Int) < (nc2 : Nat) := by rw [hnc2, hl2]; omega
        clear hnc2 hnh2
        subst hvc2 hvh2
        have f1 : ¬ M < 0 := by omega
        have f0 : ¬ (a : Int) < 0 := by omega
        have f2' : ¬ ((nc2 : Nat) : Int) ≤ M := by omega
        have f3' : ¬ ((nc2 : Nat) : Int) ≤ (a : Int) := by omega
        rw [← hM] at hm
        obtain ⟨hj1, hj1'⟩ := List.getElem?_eq_some_iff.1 hi1
        obtain ⟨hj2, hj2'⟩ := List.getElem?_eq_some_iff.1 hi2
        generalize rowsN r.1 a = rows at *
        have HM := keepBack hM
        clear hM
        obtain ⟨x2, hwx2⟩ : ∃ x, x = w4.alloc (.cells #[.slice ac2 nc2 cc2, .slice ah2 nh2 ch2] 25) := ⟨_, rfl⟩
        have bl2 : Below w4.heap.size w4 x2 := by rw [hwx2]; exact (Below.refl _ _).alloc (Nat.le_refl _) _
        have B2_x2 : BoxRow x2 w4.heap.size (.slice ac2 nc2 cc2) (.slice ah2 nh2 ch2) := by rw [hwx2]; exact ⟨heap_alloc_new _ _⟩
        have HW2 := keepBack hwx2
        clear hwx2
        have hc0_x2 := hc0_w4.call bl2
        have hh0_x2 := hh0_w4.call bl2
        have g_x2 := g_w4.call bl2
        have B0_x2 := B0_w4.call bl2
        have hc1_x2 := hc1_w4.call bl2
        have hh1_x2 := hh1_w4.call bl2
        have B1_x2 := B1_w4.call bl2
        have gd_x2 := gd_w4.call bl2
        have hc2_x2 := hc2_w4.call bl2
        have hh2_x2 := hh2_w4.call bl2
        clear hc0_w4 hh0_w4 g_w4 B0_w4 hc1_w4 hh1_w4 B1_w4 gd_w4 hc2_w4 hh2_w4
        have b0x2 := b0w4.trans (bl2.mono zw4)
        have zx2 := b0x2.size
        have q20 := B2_x2.cell0
        have q21 := B2_x2.cell1
        rw [HW2.out] at q20 q21
        go_wp2_with fail
        rw [← HW2.out]
        clear q20 q21
        refine (repoHead_of _ R2 n _ x2 ⟨_, _, rfl, hc2_x2, hh2_x2⟩ hm).mono ?_; rintro e w5 ⟨_, rfl, rfl, bw5⟩
        have hc0_w5 := hc0_x2.call bw5
        have hh0_w5 := hh0_x2.call bw5
        have g_w5 := g_x2.call bw5
        have B0_w5 := B0_x2.call bw5
        have hc1_w5 := hc1_x2.call bw5
        have hh1_w5 := hh1_x2.call bw5
        have B1_w5 := B1_x2.call bw5
        have gd_w5 := gd_x2.call bw5
        have hc2_w5 := hc2_x2.call bw5
        have hh2_w5 := hh2_x2.call bw5
        have B2_w5 := B2_x2.call bw5
        clear hc0_x2 hh0_x2 g_x2 B0_x2 hc1_x2 hh1_x2 B1_x2 gd_x2 hc2_x2 hh2_x2 B2_x2
        have b0w5 := b0x2.trans (bw5.mono zx2)
        have zw5 := b0w5.size
        have q00 := B0_w5.cell0
        have q01 := B0_w5.cell1
        have q20 := B2_w5.cell0
        have q21 := B2_w5.cell1
        have f4 : IntKind.i64.wrap ((nc0 : Int) + 1) = M := by have := HN0.out; have := HM.out; have := (dag_ok (repo_ok he).1).1; rw [IntKind.wrap_i64]; omega
        go_wp2_with fail
        clear q00 q01 q20 q21
        obtain ⟨bc, oc, cr, cp, dr, dp, ixc, _, ldc, hrr, hpp, _, _, _, _, hcr, hcp⟩ := hc2_w5.idxCommitAt aCom M (r.1.length + 1) HM.out hj1 rows ps hj1'
        obtain ⟨bc', oc', cr', cp', dr', dp', ixc', _, ldc', hrr', hpp', _, _, _, _, hcr', hcp'⟩ := hc2_w5.idxCommitAt aCom a a rfl hj2 rows qs hj2'
        have c0 := B2_w5.cell0
        have lb2 := (Array.getElem?_eq_some_iff.1 B2_w5.row).1
        have KS : ∀ W, Below w5.heap.size w5 W → W.cell? ⟨w4.heap.size, 0, none⟩ = some (.slice ac2 nc2 cc2) ∧ W.cell? ⟨bc, oc, none⟩ = some (.slice cr rows.length cp) ∧ W.cell? ⟨bc', oc', none⟩ = some (.slice cr' rows.length cp') := fun W hW => ⟨(hW.cell (p := ⟨w4.heap.size, 0, none⟩) lb2).trans c0, (hW.cell (p := ⟨bc, oc, none⟩) ldc).trans hcr, (hW.cell (p := ⟨bc', oc', none⟩) ldc').trans hcr'⟩
        have bD : Below w5.heap.size w5 w5.drew := (Below.refl _ _).drew
        clear c0 hcr hcr'
        go_region_held3 (fun W => W.cell? ⟨w4.heap.size, 0, none⟩ = some (.slice ac2 nc2 cc2) ∧ W.cell? ⟨bc, oc, none⟩ = some (.slice cr rows.length cp) ∧ W.cell? ⟨bc', oc', none⟩ = some (.slice cr' rows.length cp')) (first | exact KS _ bD | exact KS _ (Below.refl _ _) | exact KS _ (by assumption) | fail) (first | (go_at_call 11; refine (workBegun _).mono ?_; rintro e w6 ⟨_, rfl, rfl, bw6⟩; have b56 := bD.trans (bw6.mono bD.size)) | (go_at_call 19; refine (refSameRows_of (c := true) _ _ rows rows _ _ _ (hrr.call b56) (hrr'.call b56) (by simp)).mono ?_; rintro e w7 ⟨rfl, d7⟩; have b57 := b56.trans (d7.below.mono b56.size)) | fail)
        all_goals clear KS
        all_goals go_wp2
        all_goals go_ret
        all_goals exact ⟨_, rfl, rfl, b0w5.trans (b57.mono zw5)⟩
    · have hq : (p.2 != 0) = true := by simp [hp0]
      rw [show k = (k.1, k.2) from rfl, hk0] at hk
      obtain ⟨x0, hwx0⟩ : ∃ x, x = w.alloc (.cells #[.slice ac0 nc0 cc0, .slice ah0 nh0 ch0] 25) := ⟨_, rfl⟩
      have bl0 : Below w.heap.size w x0 := by rw [hwx0]; exact (Below.refl _ _).alloc (Nat.le_refl _) _
      have B0_x0 : BoxRow x0 w.heap.size (.slice ac0 nc0 cc0) (.slice ah0 nh0 ch0) := by rw [hwx0]; exact ⟨heap_alloc_new _ _⟩
      have HW0 := keepBack hwx0
      clear hwx0
      have hc0_x0 := hc0_w.call bl0
      have hh0_x0 := hh0_w.call bl0
      have g_x0 := g_w.call bl0
      clear hc0_w hh0_w g_w
      have b0x0 := bl0
      have zx0 := b0x0.size
      go_enter Try.func5, Try.ntmps5
      go_wp2_with fail
      rw [← HW0.out]
      refine (repoHead_of _ r n _ x0 ⟨_, _, rfl, hc0_x0, hh0_x0⟩ hk).mono ?_; rintro e w1 ⟨_, rfl, rfl, bw1⟩
      have hc0_w1 := hc0_x0.call bw1
      have hh0_w1 := hh0_x0.call bw1
      have g_w1 := g_x0.call bw1
      have B0_w1 := B0_x0.call bw1
      clear hc0_x0 hh0_x0 g_x0 B0_x0
      have b0w1 := b0x0.trans (bw1.mono zx0)
      have zw1 := b0w1.size
      have q00 := B0_w1.cell0
      have q01 := B0_w1.cell1
      go_wp2_with fail
      clear q00 q01
      refine (workPut_of _ _ r n d _ _ w1 ⟨_, _, rfl, hc0_w1, hh0_w1⟩ g_w1 hp).mono ?_; rintro e w2 ⟨_, rfl, ⟨y1, rfl, hy1⟩, bw2⟩
      have hc0_w2 := hc0_w1.call bw2
      have hh0_w2 := hh0_w1.call bw2
      have g_w2 := g_w1.call bw2
      have B0_w2 := B0_w1.call bw2
      clear hc0_w1 hh0_w1 g_w1 B0_w1
      have b0w2 := b0w1.trans (bw2.mono zw1)
      have zw2 := b0w2.size
      obtain ⟨vc1, vh1, rfl, hc1_w2, hh1_w2⟩ := hy1
      obtain ⟨ac1, cc1, hvc1, _, _, _⟩ := hc1_w2.shape
      obtain ⟨ah1, ch1, hvh1, _, _, _⟩ := hh1_w2.shape
      obtain ⟨nc1, hnc1⟩ : ∃ n, n = p.1.1.length := ⟨_, rfl⟩
      obtain ⟨nh1, hnh1⟩ : ∃ n, n = p.1.2.length := ⟨_, rfl⟩
      rw [← hnc1] at hvc1
      rw [← hnh1] at hvh1
      clear hnc1 hnh1
      subst hvc1 hvh1
      obtain ⟨x1, hwx1⟩ : ∃ x, x = w2.alloc (.cells #[.slice ac1 nc1 cc1, .slice ah1 nh1 ch1] 25) := ⟨_, rfl⟩
      have bl1 : Below w2.heap.size w2 x1 := by rw [hwx1]; exact (Below.refl _ _).alloc (Nat.le_refl _) _
      have B1_x1 : BoxRow x1 w2.heap.size (.slice ac1 nc1 cc1) (.slice ah1 nh1 ch1) := by rw [hwx1]; exact ⟨heap_alloc_new _ _⟩
      have HW1 := keepBack hwx1
      clear hwx1
      have hc0_x1 := hc0_w2.call bl1
      have hh0_x1 := hh0_w2.call bl1
      have g_x1 := g_w2.call bl1
      have B0_x1 := B0_w2.call bl1
      have hc1_x1 := hc1_w2.call bl1
      have hh1_x1 := hh1_w2.call bl1
      clear hc0_w2 hh0_w2 g_w2 B0_w2 hc1_w2 hh1_w2
      have b0x1 := b0w2.trans (bl1.mono zw2)
      have zx1 := b0x1.size
      go_wp2_with fail
      rw [← HW1.out]
      refine (workBegun _).mono ?_; rintro e wz ⟨_, rfl, rfl, bwz⟩
      have hc0_wz := hc0_x1.call bwz
      have hh0_wz := hh0_x1.call bwz
      have g_wz := g_x1.call bwz
      have B0_wz := B0_x1.call bwz
      have hc1_wz := hc1_x1.call bwz
      have hh1_wz := hh1_x1.call bwz
      have B1_wz := B1_x1.call bwz
      clear hc0_x1 hh0_x1 g_x1 B0_x1 hc1_x1 hh1_x1 B1_x1
      have b0wz := b0x1.trans (bwz.mono zx1)
      have zwz := b0wz.size
      go_wp2
      go_ret
      exact ⟨_, rfl, rfl, b0wz⟩
  · have hq : (k.2 != 0) = true := by simp [hk0]
    obtain ⟨x0, hwx0⟩ : ∃ x, x = w.alloc (.cells #[.slice ac0 nc0 cc0, .slice ah0 nh0 ch0] 25) := ⟨_, rfl⟩
    have bl0 : Below w.heap.size w x0 := by rw [hwx0]; exact (Below.refl _ _).alloc (Nat.le_refl _) _
    have B0_x0 : BoxRow x0 w.heap.size (.slice ac0 nc0 cc0) (.slice ah0 nh0 ch0) := by rw [hwx0]; exact ⟨heap_alloc_new _ _⟩
    have HW0 := keepBack hwx0
    clear hwx0
    have hc0_x0 := hc0_w.call bl0
    have hh0_x0 := hh0_w.call bl0
    have g_x0 := g_w.call bl0
    clear hc0_w hh0_w g_w
    have b0x0 := bl0
    have zx0 := b0x0.size
    go_enter Try.func5, Try.ntmps5
    go_wp2_with fail
    rw [← HW0.out]
    refine (repoHead_of _ r n _ x0 ⟨_, _, rfl, hc0_x0, hh0_x0⟩ hk).mono ?_; rintro e w1 ⟨_, rfl, rfl, bw1⟩
    have hc0_w1 := hc0_x0.call bw1
    have hh0_w1 := hh0_x0.call bw1
    have g_w1 := g_x0.call bw1
    have B0_w1 := B0_x0.call bw1
    clear hc0_x0 hh0_x0 g_x0 B0_x0
    have b0w1 := b0x0.trans (bw1.mono zx0)
    have zw1 := b0w1.size
    have q00 := B0_w1.cell0
    have q01 := B0_w1.cell1
    go_wp2_with fail
    clear q00 q01
    refine (workPut_of _ _ r n d _ _ w1 ⟨_, _, rfl, hc0_w1, hh0_w1⟩ g_w1 hp).mono ?_; rintro e w2 ⟨_, rfl, ⟨y1, rfl, hy1⟩, bw2⟩
    have hc0_w2 := hc0_w1.call bw2
    have hh0_w2 := hh0_w1.call bw2
    have g_w2 := g_w1.call bw2
    have B0_w2 := B0_w1.call bw2
    clear hc0_w1 hh0_w1 g_w1 B0_w1
    have b0w2 := b0w1.trans (bw2.mono zw1)
    have zw2 := b0w2.size
    obtain ⟨vc1, vh1, rfl, hc1_w2, hh1_w2⟩ := hy1
    obtain ⟨ac1, cc1, hvc1, _, _, _⟩ := hc1_w2.shape
    obtain ⟨ah1, ch1, hvh1, _, _, _⟩ := hh1_w2.shape
    obtain ⟨nc1, hnc1⟩ : ∃ n, n = p.1.1.length := ⟨_, rfl⟩
    obtain ⟨nh1, hnh1⟩ : ∃ n, n = p.1.2.length := ⟨_, rfl⟩
    rw [← hnc1] at hvc1
    rw [← hnh1] at hvh1
    clear hnc1 hnh1
    subst hvc1 hvh1
    obtain ⟨x1, hwx1⟩ : ∃ x, x = w2.alloc (.cells #[.slice ac1 nc1 cc1, .slice ah1 nh1 ch1] 25) := ⟨_, rfl⟩
    have bl1 : Below w2.heap.size w2 x1 := by rw [hwx1]; exact (Below.refl _ _).alloc (Nat.le_refl _) _
    have B1_x1 : BoxRow x1 w2.heap.size (.slice ac1 nc1 cc1) (.slice ah1 nh1 ch1) := by rw [hwx1]; exact ⟨heap_alloc_new _ _⟩
    have HW1 := keepBack hwx1
    clear hwx1
    have hc0_x1 := hc0_w2.call bl1
    have hh0_x1 := hh0_w2.call bl1
    have g_x1 := g_w2.call bl1
    have B0_x1 := B0_w2.call bl1
    have hc1_x1 := hc1_w2.call bl1
    have hh1_x1 := hh1_w2.call bl1
    clear hc0_w2 hh0_w2 g_w2 B0_w2 hc1_w2 hh1_w2
    have b0x1 := b0w2.trans (bl1.mono zw2)
    have zx1 := b0x1.size
    go_wp2_with fail
    rw [← HW1.out]
    refine (workBegun _).mono ?_; rintro e wz ⟨_, rfl, rfl, bwz⟩
    have hc0_wz := hc0_x1.call bwz
    have hh0_wz := hh0_x1.call bwz
    have g_wz := g_x1.call bwz
    have B0_wz := B0_x1.call bwz
    have hc1_wz := hc1_x1.call bwz
    have hh1_wz := hh1_x1.call bwz
    have B1_wz := B1_x1.call bwz
    clear hc0_x1 hh0_x1 g_x1 B0_x1 hc1_x1 hh1_x1 B1_x1
    have b0wz := b0x1.trans (bwz.mono zx1)
    have zwz := b0wz.size
    go_wp2
    go_ret
    exact ⟨_, rfl, rfl, b0wz⟩

set_option maxHeartbeats 2000000 in
theorem lawWorkMerged (v : Value) (r : Repo) (n f : ByteArray) (w : World) (h : Rp w (fun _ => True) v r) :
    Calls Try.prog 7 #[v, .string n, .string f] w (Ret w fun x _ => x = .bool true) := by
  obtain ⟨p, hp⟩ : ∃ p, jJoin r n f = p := ⟨_, rfl⟩
  obtain ⟨k, hk⟩ : ∃ k, headP r n = k := ⟨_, rfl⟩
  obtain ⟨m, hm⟩ : ∃ m, headP r f = m := ⟨_, rfl⟩
  obtain ⟨vc0, vh0, rfl, hc0_w, hh0_w⟩ := h
  obtain ⟨ac0, cc0, hvc0, _, _, _⟩ := hc0_w.shape
  obtain ⟨ah0, ch0, hvh0, _, _, _⟩ := hh0_w.shape
  obtain ⟨nc0, hnc0⟩ : ∃ n, n = r.1.length := ⟨_, rfl⟩
  obtain ⟨nh0, hnh0⟩ : ∃ n, n = r.2.length := ⟨_, rfl⟩
  rw [← hnc0] at hvc0
  rw [← hnh0] at hvh0
  clear hnc0 hnh0
  subst hvc0 hvh0
  by_cases hk0 : k.2 = 0
  · by_cases hm0 : m.2 = 0
    · by_cases hp0 : p.2.2 = 0
      · obtain ⟨R1, hR1⟩ : ∃ R1, R1 = p.1 := ⟨_, rfl⟩
        obtain ⟨L1, hL1⟩ : ∃ L1, L1 = p.2.1 := ⟨_, rfl⟩
        obtain rfl : p = (R1, L1, 0) := by rw [hR1, hL1, ← hp0]
        clear hR1 hL1
        obtain ⟨a, b, c, ha, hb, hal, hbl, heR, hnR, hfR, hcl, hle, hca, hcb, hagain⟩ := join_in hp
        obtain rfl : k = ((a : Int), 0) := hk.symm.trans ha
        obtain rfl : m = ((b : Int), 0) := hm.symm.trans hb
        clear hk0 hm0 hp0
        obtain ⟨x0, hwx0⟩ : ∃ x, x = w.alloc (.cells #[.slice ac0 nc0 cc0, .slice ah0 nh0 ch0] 25) := ⟨_, rfl⟩
        have bl0 : Below w.heap.size w x0 := by rw [hwx0]; exact (Below.refl _ _).alloc (Nat.le_refl _) _
        have B0_x0 : BoxRow x0 w.heap.size (.slice ac0 nc0 cc0) (.slice ah0 nh0 ch0) := by rw [hwx0]; exact ⟨heap_alloc_new _ _⟩
        have HW0 := keepBack hwx0
        clear hwx0
        have hc0_x0 := hc0_w.call bl0
        have hh0_x0 := hh0_w.call bl0
        clear hc0_w hh0_w
        have b0x0 := bl0
        have zx0 := b0x0.size
        go_enter Try.func7, Try.ntmps7
        go_wp2_with fail
        rw [← HW0.out]
        refine (repoHead_of _ r n _ x0 ⟨_, _, rfl, hc0_x0, hh0_x0⟩ ha).mono ?_; rintro e w1 ⟨_, rfl, rfl, bw1⟩
        have hc0_w1 := hc0_x0.call bw1
        have hh0_w1 := hh0_x0.call bw1
        have B0_w1 := B0_x0.call bw1
        clear hc0_x0 hh0_x0 B0_x0
        have b0w1 := b0x0.trans (bw1.mono zx0)
        have zw1 := b0w1.size
        have q00 := B0_w1.cell0
        have q01 := B0_w1.cell1
        go_wp2_with fail
        clear q00 q01
        refine (repoHead_of _ r f _ w1 ⟨_, _, rfl, hc0_w1, hh0_w1⟩ hb).mono ?_; rintro e w2 ⟨_, rfl, rfl, bw2⟩
        have hc0_w2 := hc0_w1.call bw2
        have hh0_w2 := hh0_w1.call bw2
        have B0_w2 := B0_w1.call bw2
        clear hc0_w1 hh0_w1 B0_w1
        have b0w2 := b0w1.trans (bw2.mono zw1)
        have zw2 := b0w2.size
        have q00 := B0_w2.cell0
        have q01 := B0_w2.cell1
        go_wp2_with fail
        clear q00 q01
        refine (workMerge_of _ r n f _ w2 ⟨_, _, rfl, hc0_w2, hh0_w2⟩ hp).mono ?_; rintro e w3 ⟨_, rfl, ⟨y1, z1, rfl, hy1, hz1_w3⟩, bw3⟩
        have hc0_w3 := hc0_w2.call bw3
        have hh0_w3 := hh0_w2.call bw3
        have B0_w3 := B0_w2.call bw3
        clear hc0_w2 hh0_w2 B0_w2
        have b0w3 := b0w2.trans (bw3.mono zw2)
        have zw3 := b0w3.size
        obtain ⟨vc1, vh1, rfl, hc1_w3, hh1_w3⟩ := hy1
        obtain ⟨ac1, cc1, hvc1, _, _, _⟩ := hc1_w3.shape
        obtain ⟨ah1, ch1, hvh1, _, _, _⟩ := hh1_w3.shape
        obtain ⟨nc1, hnc1⟩ : ∃ n, n = R1.1.length := ⟨_, rfl⟩
        obtain ⟨nh1, hnh1⟩ : ∃ n, n = R1.2.length := ⟨_, rfl⟩
        rw [← hnc1] at hvc1
        rw [← hnh1] at hvh1
        clear hnc1 hnh1
        subst hvc1 hvh1
        obtain ⟨az1, cz1, hvz1, _, _, _⟩ := hz1_w3.shape
        obtain ⟨nz1, hnz1⟩ : ∃ n, n = L1.length := ⟨_, rfl⟩
        rw [← hnz1] at hvz1
        clear hnz1
        subst hvz1
        obtain ⟨x1, hwx1⟩ : ∃ x, x = w3.alloc (.cells #[.slice ac1 nc1 cc1, .slice ah1 nh1 ch1] 25) := ⟨_, rfl⟩
        have bl1 : Below w3.heap.size w3 x1 := by rw [hwx1]; exact (Below.refl _ _).alloc (Nat.le_refl _) _
        have B1_x1 : BoxRow x1 w3.heap.size (.slice ac1 nc1 cc1) (.slice ah1 nh1 ch1) := by rw [hwx1]; exact ⟨heap_alloc_new _ _⟩
        have HW1 := keepBack hwx1
        clear hwx1
        have hc0_x1 := hc0_w3.call bl1
        have hh0_x1 := hh0_w3.call bl1
        have B0_x1 := B0_w3.call bl1
        have hc1_x1 := hc1_w3.call bl1
        have hh1_x1 := hh1_w3.call bl1
        clear hc0_w3 hh0_w3 B0_w3 hc1_w3 hh1_w3
        have b0x1 := b0w3.trans (bl1.mono zw3)
        have zx1 := b0x1.size
        have q10 := B1_x1.cell0
        have q11 := B1_x1.cell1
        rw [HW1.out] at q10 q11
        go_wp2_with fail
        rw [← HW1.out]
        clear q10 q11
        have hdag := dag_ok (repo_ok heR).1
        obtain ⟨hab2, hab1⟩ : (aboveP R1.1 (c : Int)).2 = 0 ∧ (aboveP R1.1 (c : Int)).1 = aboveL R1.1 c := by rw [aboveP_in (repo_ok heR).1 hcl]; exact ⟨rfl, rfl⟩
        refine (repoHead_of _ R1 n _ x1 ⟨_, _, rfl, hc1_x1, hh1_x1⟩ hnR).mono ?_; rintro e w4 ⟨_, rfl, rfl, bw4⟩
        have hc0_w4 := hc0_x1.call bw4
        have hh0_w4 := hh0_x1.call bw4
        have B0_w4 := B0_x1.call bw4
        have hc1_w4 := hc1_x1.call bw4
        have hh1_w4 := hh1_x1.call bw4
        have B1_w4 := B1_x1.call bw4
        clear hc0_x1 hh0_x1 B0_x1 hc1_x1 hh1_x1 B1_x1
        have b0w4 := b0x1.trans (bw4.mono zx1)
        have zw4 := b0w4.size
        have q10 := B1_w4.cell0
        have q11 := B1_w4.cell1
        go_wp2_with fail
        clear q10 q11
        refine (repoHead_of _ R1 f _ w4 ⟨_, _, rfl, hc1_w4, hh1_w4⟩ hfR).mono ?_; rintro e w5 ⟨_, rfl, rfl, bw5⟩
        have hc0_w5 := hc0_w4.call bw5
        have hh0_w5 := hh0_w4.call bw5
        have B0_w5 := B0_w4.call bw5
        have hc1_w5 := hc1_w4.call bw5
        have hh1_w5 := hh1_w4.call bw5
        have B1_w5 := B1_w4.call bw5
        clear hc0_w4 hh0_w4 B0_w4 hc1_w4 hh1_w4 B1_w4
        have b0w5 := b0w4.trans (bw5.mono zw4)
        have zw5 := b0w5.size
        have q10 := B1_w5.cell0
        have q11 := B1_w5.cell1
        go_wp2_with fail
        clear q10 q11
        have hc14 := hdag.1
        refine (dagAbove _ R1.1 (c : Int) _ w5 hc1_w5 (by unfold i64ok; omega)).mono ?_; rintro e w6 ⟨_, rfl, ⟨yl, rfl, gl_w6⟩, bw6⟩
        have hc0_w6 := hc0_w5.call bw6
        have hh0_w6 := hh0_w5.call bw6
        have B0_w6 := B0_w5.call bw6
        have hc1_w6 := hc1_w5.call bw6
        have hh1_w6 := hh1_w5.call bw6
        have B1_w6 := B1_w5.call bw6
        clear hc0_w5 hh0_w5 B0_w5 hc1_w5 hh1_w5 B1_w5
        have b0w6 := b0w5.trans (bw6.mono zw5)
        have zw6 := b0w6.size
        rw [hab1] at gl_w6
        rw [hab2]
        obtain ⟨al, cl, hvl, _, _, _⟩ := gl_w6.shape
        have hll : (aboveL R1.1 c).length = R1.1.length := by simp [aboveL]
        have fa : (a : Int) < ((aboveL R1.1 c).length : Nat) := by rw [hll]; omega
        have fb : (b : Int) < ((aboveL R1.1 c).length : Nat) := by rw [hll]; omega
        have fa' : ¬ (((aboveL R1.1 c).length : Nat) : Int) ≤ (a : Int) := by omega
        have fb' : ¬ (((aboveL R1.1 c).length : Nat) : Int) ≤ (b : Int) := by omega
        have va : (aboveL R1.1 c)[a]? = some true := by rw [aboveL, List.getElem?_map, List.getElem?_range (by omega)]; simp [hca]
        have vb : (aboveL R1.1 c)[b]? = some true := by rw [aboveL, List.getElem?_map, List.getElem?_range (by omega)]; simp [hcb]
        generalize aboveL R1.1 c = LB at *
        generalize LB.length = nl at hvl fa fb fa' fb'
        subst hvl
        have q10 := B1_w6.cell0
        have q11 := B1_w6.cell1
        go_wp2_with fail
        clear q10 q11
        refine (workMerge_of _ R1 n f _ w6 ⟨_, _, rfl, hc1_w6, hh1_w6⟩ hagain).mono ?_; rintro e w7 ⟨_, rfl, ⟨y2, z2, rfl, hy2, hz2_w7⟩, bw7⟩
        have hc0_w7 := hc0_w6.call bw7
        have hh0_w7 := hh0_w6.call bw7
        have B0_w7 := B0_w6.call bw7
        have hc1_w7 := hc1_w6.call bw7
        have hh1_w7 := hh1_w6.call bw7
        have B1_w7 := B1_w6.call bw7
        have gl_w7 := gl_w6.call bw7
        clear hc0_w6 hh0_w6 B0_w6 hc1_w6 hh1_w6 B1_w6 gl_w6
        have b0w7 := b0w6.trans (bw7.mono zw6)
        have zw7 := b0w7.size
        obtain ⟨vc2, vh2, rfl, hc2, hh2⟩ := hy2
        obtain ⟨ac2, cc2, rfl, _, _, _⟩ := hc2.shapeAt 0 rfl
        obtain ⟨ah2, ch2, rfl, _, _, _⟩ := hh2.shapeAt 0 rfl
        clear hc2 hh2
        obtain ⟨az2, cz2, rfl, _, _, _⟩ := hz2_w7.shapeAt 0 rfl
        clear hz2_w7
        obtain ⟨nc2, hnc2⟩ : ∃ n : Nat, n = 0 := ⟨_, rfl⟩
        obtain ⟨nh2, hnh2⟩ : ∃ n : Nat, n = 0 := ⟨_, rfl⟩
        obtain ⟨x2, hwx2⟩ : ∃ x, x = w7.alloc (.cells #[.slice ac2 0 cc2, .slice ah2 0 ch2] 25) := ⟨_, rfl⟩
        have bl2 : Below w7.heap.size w7 x2 := by rw [hwx2]; exact (Below.refl _ _).alloc (Nat.le_refl _) _
        have HW2 := keepBack hwx2
        clear hwx2 hnc2 hnh2 nc2 nh2
        have hc0_x2 := hc0_w7.call bl2
        have hh0_x2 := hh0_w7.call bl2
        have B0_x2 := B0_w7.call bl2
        have hc1_x2 := hc1_w7.call bl2
        have hh1_x2 := hh1_w7.call bl2
        have B1_x2 := B1_w7.call bl2
        have gl_x2 := gl_w7.call bl2
        clear hc0_w7 hh0_w7 B0_w7 hc1_w7 hh1_w7 B1_w7 gl_w7
        have b0x2 := b0w7.trans (bl2.mono zw7)
        have zx2 := b0x2.size
        have f1 : ¬ (a : Int) < 0 := by omega
        have f2 : ¬ (b : Int) < 0 := by omega
        go_wp2_with fail
        rw [← HW2.out]
        refine (workBegun _).mono ?_; rintro e wz ⟨_, rfl, rfl, bwz⟩
        have hc0_wz := hc0_x2.call bwz
        have hh0_wz := hh0_x2.call bwz
        have B0_wz := B0_x2.call bwz
        have hc1_wz := hc1_x2.call bwz
        have hh1_wz := hh1_x2.call bwz
        have B1_wz := B1_x2.call bwz
        have gl_wz := gl_x2.call bwz
        clear hc0_x2 hh0_x2 B0_x2 hc1_x2 hh1_x2 B1_x2 gl_x2
        have b0wz := b0x2.trans (bwz.mono zx2)
        have zwz := b0wz.size
        obtain ⟨ha', hav⟩ := List.getElem?_eq_some_iff.1 va
        obtain ⟨hb', hbv⟩ := List.getElem?_eq_some_iff.1 vb
        obtain ⟨g1, o1, ix1, _, _, m1⟩ := gl_wz.idxBool aBool a a rfl ha'
        obtain ⟨g2, o2, ix2, _, _, m2⟩ := gl_wz.idxBool aBool b b rfl hb'
        rw [hav] at m1
        rw [hbv] at m2
        have heq : ((b : Int) == b) = true := by simp
        cases hnf : (n.toList == f.toList)
        all_goals
          go_wp2
          go_ret
          exact ⟨_, rfl, rfl, b0wz⟩
      · have hq : (p.2.2 != 0) = true := by simp [hp0]
        rw [show k = (k.1, k.2) from rfl, hk0] at hk
        rw [show m = (m.1, m.2) from rfl, hm0] at hm
        obtain ⟨x0, hwx0⟩ : ∃ x, x = w.alloc (.cells #[.slice ac0 nc0 cc0, .slice ah0 nh0 ch0] 25) := ⟨_, rfl⟩
        have bl0 : Below w.heap.size w x0 := by rw [hwx0]; exact (Below.refl _ _).alloc (Nat.le_refl _) _
        have B0_x0 : BoxRow x0 w.heap.size (.slice ac0 nc0 cc0) (.slice ah0 nh0 ch0) := by rw [hwx0]; exact ⟨heap_alloc_new _ _⟩
        have HW0 := keepBack hwx0
        clear hwx0
        have hc0_x0 := hc0_w.call bl0
        have hh0_x0 := hh0_w.call bl0
        clear hc0_w hh0_w
        have b0x0 := bl0
        have zx0 := b0x0.size
        go_enter Try.func7, Try.ntmps7
        go_wp2_with fail
        rw [← HW0.out]
        refine (repoHead_of _ r n _ x0 ⟨_, _, rfl, hc0_x0, hh0_x0⟩ hk).mono ?_; rintro e w1 ⟨_, rfl, rfl, bw1⟩
        have hc0_w1 := hc0_x0.call bw1
        have hh0_w1 := hh0_x0.call bw1
        have B0_w1 := B0_x0.call bw1
        clear hc0_x0 hh0_x0 B0_x0
        have b0w1 := b0x0.trans (bw1.mono zx0)
        have zw1 := b0w1.size
        have q00 := B0_w1.cell0
        have q01 := B0_w1.cell1
        go_wp2_with fail
        clear q00 q01
        refine (repoHead_of _ r f _ w1 ⟨_, _, rfl, hc0_w1, hh0_w1⟩ hm).mono ?_; rintro e w2 ⟨_, rfl, rfl, bw2⟩
        have hc0_w2 := hc0_w1.call bw2
        have hh0_w2 := hh0_w1.call bw2
        have B0_w2 := B0_w1.call bw2
        clear hc0_w1 hh0_w1 B0_w1
        have b0w2 := b0w1.trans (bw2.mono zw1)
        have zw2 := b0w2.size
        have q00 := B0_w2.cell0
        have q01 := B0_w2.cell1
        go_wp2_with fail
        clear q00 q01
        refine (workMerge_of _ r n f _ w2 ⟨_, _, rfl, hc0_w2, hh0_w2⟩ hp).mono ?_; rintro e w3 ⟨_, rfl, ⟨y1, z1, rfl, hy1, hz1_w3⟩, bw3⟩
        have hc0_w3 := hc0_w2.call bw3
        have hh0_w3 := hh0_w2.call bw3
        have B0_w3 := B0_w2.call bw3
        clear hc0_w2 hh0_w2 B0_w2
        have b0w3 := b0w2.trans (bw3.mono zw2)
        have zw3 := b0w3.size
        obtain ⟨vc1, vh1, rfl, hc1_w3, hh1_w3⟩ := hy1
        obtain ⟨ac1, cc1, hvc1, _, _, _⟩ := hc1_w3.shape
        obtain ⟨ah1, ch1, hvh1, _, _, _⟩ := hh1_w3.shape
        obtain ⟨nc1, hnc1⟩ : ∃ n, n = p.1.1.length := ⟨_, rfl⟩
        obtain ⟨nh1, hnh1⟩ : ∃ n, n = p.1.2.length := ⟨_, rfl⟩
        rw [← hnc1] at hvc1
        rw [← hnh1] at hvh1
        clear hnc1 hnh1
        subst hvc1 hvh1
        obtain ⟨az1, cz1, hvz1, _, _, _⟩ := hz1_w3.shape
        obtain ⟨nz1, hnz1⟩ : ∃ n, n = p.2.1.length := ⟨_, rfl⟩
        rw [← hnz1] at hvz1
        clear hnz1
        subst hvz1
        obtain ⟨x1, hwx1⟩ : ∃ x, x = w3.alloc (.cells #[.slice ac1 nc1 cc1, .slice ah1 nh1 ch1] 25) := ⟨_, rfl⟩
        have bl1 : Below w3.heap.size w3 x1 := by rw [hwx1]; exact (Below.refl _ _).alloc (Nat.le_refl _) _
        have B1_x1 : BoxRow x1 w3.heap.size (.slice ac1 nc1 cc1) (.slice ah1 nh1 ch1) := by rw [hwx1]; exact ⟨heap_alloc_new _ _⟩
        have HW1 := keepBack hwx1
        clear hwx1
        have hc0_x1 := hc0_w3.call bl1
        have hh0_x1 := hh0_w3.call bl1
        have B0_x1 := B0_w3.call bl1
        have hc1_x1 := hc1_w3.call bl1
        have hh1_x1 := hh1_w3.call bl1
        clear hc0_w3 hh0_w3 B0_w3 hc1_w3 hh1_w3
        have b0x1 := b0w3.trans (bl1.mono zw3)
        have zx1 := b0x1.size
        go_wp2_with fail
        rw [← HW1.out]
        refine (workBegun _).mono ?_; rintro e wz ⟨_, rfl, rfl, bwz⟩
        have hc0_wz := hc0_x1.call bwz
        have hh0_wz := hh0_x1.call bwz
        have B0_wz := B0_x1.call bwz
        have hc1_wz := hc1_x1.call bwz
        have hh1_wz := hh1_x1.call bwz
        have B1_wz := B1_x1.call bwz
        clear hc0_x1 hh0_x1 B0_x1 hc1_x1 hh1_x1 B1_x1
        have b0wz := b0x1.trans (bwz.mono zx1)
        have zwz := b0wz.size
        go_wp2
        go_ret
        exact ⟨_, rfl, rfl, b0wz⟩
    · have hq : (m.2 != 0) = true := by simp [hm0]
      rw [show k = (k.1, k.2) from rfl, hk0] at hk
      obtain ⟨x0, hwx0⟩ : ∃ x, x = w.alloc (.cells #[.slice ac0 nc0 cc0, .slice ah0 nh0 ch0] 25) := ⟨_, rfl⟩
      have bl0 : Below w.heap.size w x0 := by rw [hwx0]; exact (Below.refl _ _).alloc (Nat.le_refl _) _
      have B0_x0 : BoxRow x0 w.heap.size (.slice ac0 nc0 cc0) (.slice ah0 nh0 ch0) := by rw [hwx0]; exact ⟨heap_alloc_new _ _⟩
      have HW0 := keepBack hwx0
      clear hwx0
      have hc0_x0 := hc0_w.call bl0
      have hh0_x0 := hh0_w.call bl0
      clear hc0_w hh0_w
      have b0x0 := bl0
      have zx0 := b0x0.size
      go_enter Try.func7, Try.ntmps7
      go_wp2_with fail
      rw [← HW0.out]
      refine (repoHead_of _ r n _ x0 ⟨_, _, rfl, hc0_x0, hh0_x0⟩ hk).mono ?_; rintro e w1 ⟨_, rfl, rfl, bw1⟩
      have hc0_w1 := hc0_x0.call bw1
      have hh0_w1 := hh0_x0.call bw1
      have B0_w1 := B0_x0.call bw1
      clear hc0_x0 hh0_x0 B0_x0
      have b0w1 := b0x0.trans (bw1.mono zx0)
      have zw1 := b0w1.size
      have q00 := B0_w1.cell0
      have q01 := B0_w1.cell1
      go_wp2_with fail
      clear q00 q01
      refine (repoHead_of _ r f _ w1 ⟨_, _, rfl, hc0_w1, hh0_w1⟩ hm).mono ?_; rintro e w2 ⟨_, rfl, rfl, bw2⟩
      have hc0_w2 := hc0_w1.call bw2
      have hh0_w2 := hh0_w1.call bw2
      have B0_w2 := B0_w1.call bw2
      clear hc0_w1 hh0_w1 B0_w1
      have b0w2 := b0w1.trans (bw2.mono zw1)
      have zw2 := b0w2.size
      have q00 := B0_w2.cell0
      have q01 := B0_w2.cell1
      go_wp2_with fail
      clear q00 q01
      refine (workMerge_of _ r n f _ w2 ⟨_, _, rfl, hc0_w2, hh0_w2⟩ hp).mono ?_; rintro e w3 ⟨_, rfl, ⟨y1, z1, rfl, hy1, hz1_w3⟩, bw3⟩
      have hc0_w3 := hc0_w2.call bw3
      have hh0_w3 := hh0_w2.call bw3
      have B0_w3 := B0_w2.call bw3
      clear hc0_w2 hh0_w2 B0_w2
      have b0w3 := b0w2.trans (bw3.mono zw2)
      have zw3 := b0w3.size
      obtain ⟨vc1, vh1, rfl, hc1_w3, hh1_w3⟩ := hy1
      obtain ⟨ac1, cc1, hvc1, _, _, _⟩ := hc1_w3.shape
      obtain ⟨ah1, ch1, hvh1, _, _, _⟩ := hh1_w3.shape
      obtain ⟨nc1, hnc1⟩ : ∃ n, n = p.1.1.length := ⟨_, rfl⟩
      obtain ⟨nh1, hnh1⟩ : ∃ n, n = p.1.2.length := ⟨_, rfl⟩
      rw [← hnc1] at hvc1
      rw [← hnh1] at hvh1
      clear hnc1 hnh1
      subst hvc1 hvh1
      obtain ⟨az1, cz1, hvz1, _, _, _⟩ := hz1_w3.shape
      obtain ⟨nz1, hnz1⟩ : ∃ n, n = p.2.1.length := ⟨_, rfl⟩
      rw [← hnz1] at hvz1
      clear hnz1
      subst hvz1
      obtain ⟨x1, hwx1⟩ : ∃ x, x = w3.alloc (.cells #[.slice ac1 nc1 cc1, .slice ah1 nh1 ch1] 25) := ⟨_, rfl⟩
      have bl1 : Below w3.heap.size w3 x1 := by rw [hwx1]; exact (Below.refl _ _).alloc (Nat.le_refl _) _
      have B1_x1 : BoxRow x1 w3.heap.size (.slice ac1 nc1 cc1) (.slice ah1 nh1 ch1) := by rw [hwx1]; exact ⟨heap_alloc_new _ _⟩
      have HW1 := keepBack hwx1
      clear hwx1
      have hc0_x1 := hc0_w3.call bl1
      have hh0_x1 := hh0_w3.call bl1
      have B0_x1 := B0_w3.call bl1
      have hc1_x1 := hc1_w3.call bl1
      have hh1_x1 := hh1_w3.call bl1
      clear hc0_w3 hh0_w3 B0_w3 hc1_w3 hh1_w3
      have b0x1 := b0w3.trans (bl1.mono zw3)
      have zx1 := b0x1.size
      go_wp2_with fail
      rw [← HW1.out]
      refine (workBegun _).mono ?_; rintro e wz ⟨_, rfl, rfl, bwz⟩
      have hc0_wz := hc0_x1.call bwz
      have hh0_wz := hh0_x1.call bwz
      have B0_wz := B0_x1.call bwz
      have hc1_wz := hc1_x1.call bwz
      have hh1_wz := hh1_x1.call bwz
      have B1_wz := B1_x1.call bwz
      clear hc0_x1 hh0_x1 B0_x1 hc1_x1 hh1_x1 B1_x1
      have b0wz := b0x1.trans (bwz.mono zx1)
      have zwz := b0wz.size
      go_wp2
      go_ret
      exact ⟨_, rfl, rfl, b0wz⟩
  · have hq : (k.2 != 0) = true := by simp [hk0]
    obtain ⟨x0, hwx0⟩ : ∃ x, x = w.alloc (.cells #[.slice ac0 nc0 cc0, .slice ah0 nh0 ch0] 25) := ⟨_, rfl⟩
    have bl0 : Below w.heap.size w x0 := by rw [hwx0]; exact (Below.refl _ _).alloc (Nat.le_refl _) _
    have B0_x0 : BoxRow x0 w.heap.size (.slice ac0 nc0 cc0) (.slice ah0 nh0 ch0) := by rw [hwx0]; exact ⟨heap_alloc_new _ _⟩
    have HW0 := keepBack hwx0
    clear hwx0
    have hc0_x0 := hc0_w.call bl0
    have hh0_x0 := hh0_w.call bl0
    clear hc0_w hh0_w
    have b0x0 := bl0
    have zx0 := b0x0.size
    go_enter Try.func7, Try.ntmps7
    go_wp2_with fail
    rw [← HW0.out]
    refine (repoHead_of _ r n _ x0 ⟨_, _, rfl, hc0_x0, hh0_x0⟩ hk).mono ?_; rintro e w1 ⟨_, rfl, rfl, bw1⟩
    have hc0_w1 := hc0_x0.call bw1
    have hh0_w1 := hh0_x0.call bw1
    have B0_w1 := B0_x0.call bw1
    clear hc0_x0 hh0_x0 B0_x0
    have b0w1 := b0x0.trans (bw1.mono zx0)
    have zw1 := b0w1.size
    have q00 := B0_w1.cell0
    have q01 := B0_w1.cell1
    go_wp2_with fail
    clear q00 q01
    refine (repoHead_of _ r f _ w1 ⟨_, _, rfl, hc0_w1, hh0_w1⟩ hm).mono ?_; rintro e w2 ⟨_, rfl, rfl, bw2⟩
    have hc0_w2 := hc0_w1.call bw2
    have hh0_w2 := hh0_w1.call bw2
    have B0_w2 := B0_w1.call bw2
    clear hc0_w1 hh0_w1 B0_w1
    have b0w2 := b0w1.trans (bw2.mono zw1)
    have zw2 := b0w2.size
    have q00 := B0_w2.cell0
    have q01 := B0_w2.cell1
    go_wp2_with fail
    clear q00 q01
    refine (workMerge_of _ r n f _ w2 ⟨_, _, rfl, hc0_w2, hh0_w2⟩ hp).mono ?_; rintro e w3 ⟨_, rfl, ⟨y1, z1, rfl, hy1, hz1_w3⟩, bw3⟩
    have hc0_w3 := hc0_w2.call bw3
    have hh0_w3 := hh0_w2.call bw3
    have B0_w3 := B0_w2.call bw3
    clear hc0_w2 hh0_w2 B0_w2
    have b0w3 := b0w2.trans (bw3.mono zw2)
    have zw3 := b0w3.size
    obtain ⟨vc1, vh1, rfl, hc1_w3, hh1_w3⟩ := hy1
    obtain ⟨ac1, cc1, hvc1, _, _, _⟩ := hc1_w3.shape
    obtain ⟨ah1, ch1, hvh1, _, _, _⟩ := hh1_w3.shape
    obtain ⟨nc1, hnc1⟩ : ∃ n, n = p.1.1.length := ⟨_, rfl⟩
    obtain ⟨nh1, hnh1⟩ : ∃ n, n = p.1.2.length := ⟨_, rfl⟩
    rw [← hnc1] at hvc1
    rw [← hnh1] at hvh1
    clear hnc1 hnh1
    subst hvc1 hvh1
    obtain ⟨az1, cz1, hvz1, _, _, _⟩ := hz1_w3.shape
    obtain ⟨nz1, hnz1⟩ : ∃ n, n = p.2.1.length := ⟨_, rfl⟩
    rw [← hnz1] at hvz1
    clear hnz1
    subst hvz1
    obtain ⟨x1, hwx1⟩ : ∃ x, x = w3.alloc (.cells #[.slice ac1 nc1 cc1, .slice ah1 nh1 ch1] 25) := ⟨_, rfl⟩
    have bl1 : Below w3.heap.size w3 x1 := by rw [hwx1]; exact (Below.refl _ _).alloc (Nat.le_refl _) _
    have B1_x1 : BoxRow x1 w3.heap.size (.slice ac1 nc1 cc1) (.slice ah1 nh1 ch1) := by rw [hwx1]; exact ⟨heap_alloc_new _ _⟩
    have HW1 := keepBack hwx1
    clear hwx1
    have hc0_x1 := hc0_w3.call bl1
    have hh0_x1 := hh0_w3.call bl1
    have B0_x1 := B0_w3.call bl1
    have hc1_x1 := hc1_w3.call bl1
    have hh1_x1 := hh1_w3.call bl1
    clear hc0_w3 hh0_w3 B0_w3 hc1_w3 hh1_w3
    have b0x1 := b0w3.trans (bl1.mono zw3)
    have zx1 := b0x1.size
    go_wp2_with fail
    rw [← HW1.out]
    refine (workBegun _).mono ?_; rintro e wz ⟨_, rfl, rfl, bwz⟩
    have hc0_wz := hc0_x1.call bwz
    have hh0_wz := hh0_x1.call bwz
    have B0_wz := B0_x1.call bwz
    have hc1_wz := hc1_x1.call bwz
    have hh1_wz := hh1_x1.call bwz
    have B1_wz := B1_x1.call bwz
    clear hc0_x1 hh0_x1 B0_x1 hc1_x1 hh1_x1 B1_x1
    have b0wz := b0x1.trans (bwz.mono zx1)
    have zwz := b0wz.size
    go_wp2
    go_ret
    exact ⟨_, rfl, rfl, b0wz⟩

end Go.Pch
end
