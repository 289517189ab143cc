/- The law RestRepos: the walk. (gen_rs.py) From a row's data to what a value reads as; no program is named here. What the program's types read as. -/
import Derived.Test.YtjjkdpjjaijmbaaGreatRg47
import Derived.Test.YtjjkdpjjaijmbaaGreatRg2
import Derived.ProofKit
import Derived.OpenShut
import Derived.Deep.Slices
import Derived.ChangeSame
import Derived.Test.YtjjkdpjjaijmbaaGreatRg15
section
namespace Go.Pch
open Go.RowKit Go.Proofs
set_option maxRecDepth 100000
set_option linter.unusedVariables false

set_option maxHeartbeats 2000000 in
theorem lawRestRepos (v : Value) (r : Repo) (u : Value) (x : Act) (vl : Value) (l : List Row) (w : World) (h : Rp w (fun _ => True) v r) (g : AtAct w (fun _ => True) u x) (hz : x.2.1.size ≤ maxLen) (hl_w : Sl tRow w (fun _ => True) vl l) :
    Calls Tryz.prog 3 #[v, u, vl] w (Ret w fun x _ => x = .bool true) := by
  have HP := keepBack (⟨_, rfl⟩ : ∃ p, doP r x = p)
  obtain ⟨p, hp⟩ := HP.out
  clear HP
  obtain ⟨k, a, b, d⟩ := x
  obtain ⟨vd, rfl, hd_w⟩ := g
  obtain ⟨ad, cd, hvd, _, _, _⟩ := hd_w.shape
  simp only at hvd hd_w hz
  generalize d.length = nd at hvd
  subst hvd
  simp only
  obtain ⟨al, cl, rfl, hlc, hlm, hln⟩ := hl_w.shape
  obtain ⟨vc0, vh0, rfl, hc0_w, hh0_w⟩ := h
  obtain ⟨ac0, cc0, hvc0, _, _, _⟩ := hc0_w.shape
  obtain ⟨ah0, ch0, hvh0, _, _, _⟩ := hh0_w.shape
  obtain ⟨nc0, hnc0⟩ : ∃ n, n = r.1.length := ⟨_, rfl⟩
  obtain ⟨nh0, hnh0⟩ : ∃ n, n = r.2.length := ⟨_, rfl⟩
  rw [← hnc0] at hvc0
  rw [← hnh0] at hvh0
  clear hnc0 hnh0
  subst hvc0 hvh0
  obtain ⟨x0, hwx0⟩ : ∃ x0, x0 = (w.alloc (.cells #[.slice ac0 nc0 cc0, .slice ah0 nh0 ch0] 25)).alloc (.cells #[.int .i64 k, .string a, .string b, .slice ad nd cd] 28) := ⟨_, rfl⟩
  have bl0 : Below w.heap.size w x0 := by rw [hwx0]; exact ((Below.refl _ _).alloc (Nat.le_refl _) _).alloc (by simp) _
  have B0_x0 : BoxRow x0 w.heap.size (.slice ac0 nc0 cc0) (.slice ah0 nh0 ch0) := by rw [hwx0]; exact ⟨(Below.heap_alloc _ _ _ (by simp)).trans (heap_alloc_new _ _)⟩
  have A0_x0 : ActRow x0 (w.heap.size + 1) k a b (.slice ad nd cd) := by rw [hwx0]; have := heap_alloc_new (w.alloc (.cells #[.slice ac0 nc0 cc0, .slice ah0 nh0 ch0] 25)) (.cells #[.int .i64 k, .string a, .string b, .slice ad nd cd] 28); rw [show (w.alloc (.cells #[.slice ac0 nc0 cc0, .slice ah0 nh0 ch0] 25)).heap.size = w.heap.size + 1 by simp] at this; exact ⟨this⟩
  have HW0 := keepBack hwx0
  clear hwx0
  have hc0_x0 := hc0_w.call bl0
  have hh0_x0 := hh0_w.call bl0
  have hd_x0 := hd_w.call bl0
  have hl_x0 := hl_w.call bl0
  clear hc0_w hh0_w hd_w hl_w
  have b0x0 := bl0
  have zx0 := b0x0.size
  by_cases he : repoErr r ≠ 0
  · obtain ⟨c, hc, hc0⟩ : ∃ c, repoErr r = c ∧ c ≠ 0 := ⟨_, rfl, he⟩
    go_enter Tryz.func3, Tryz.ntmps3
    have q00 := B0_x0.cell0
    have q01 := B0_x0.cell1
    obtain ⟨m0, m1, m2, m3⟩ := A0_x0.cells
    rw [HW0.out] at q00 q01 m0 m1 m2 m3
    go_wp2_with fail
    rw [← HW0.out]
    clear q00 q01 m0 m1 m2 m3
    refine (refRepoError_of _ r _ x0 ⟨_, _, rfl, hc0_x0, hh0_x0⟩ hc).mono ?_; rintro e w1 ⟨_, rfl, rfl, bw1⟩
    have hc0_w1 := hc0_x0.call bw1
    have hh0_w1 := hh0_x0.call bw1
    have hd_w1 := hd_x0.call bw1
    have hl_w1 := hl_x0.call bw1
    have B0_w1 := B0_x0.call bw1
    have A0_w1 := A0_x0.call bw1
    clear hc0_x0 hh0_x0 hd_x0 hl_x0 B0_x0 A0_x0
    have b0w1 := b0x0.trans (bw1.mono zx0)
    have zw1 := b0w1.size
    go_wp2_with fail
    refine (logBegun _).mono ?_; rintro e w2 ⟨_, rfl, rfl, bw2⟩
    have hc0_w2 := hc0_w1.call bw2
    have hh0_w2 := hh0_w1.call bw2
    have hd_w2 := hd_w1.call bw2
    have hl_w2 := hl_w1.call bw2
    have B0_w2 := B0_w1.call bw2
    have A0_w2 := A0_w1.call bw2
    clear hc0_w1 hh0_w1 hd_w1 hl_w1 B0_w1 A0_w1
    have b0w2 := b0w1.trans (bw2.mono zw1)
    have zw2 := b0w2.size
    go_wp2
    go_ret
    exact ⟨_, rfl, rfl, b0w2⟩
  have he := Decidable.not_not.1 he
  by_cases hw : rowsErr l ≠ 0
  · obtain ⟨c, hc, hc0⟩ : ∃ c, rowsErr l = c ∧ c ≠ 0 := ⟨_, rfl, hw⟩
    go_enter Tryz.func3, Tryz.ntmps3
    have q00 := B0_x0.cell0
    have q01 := B0_x0.cell1
    obtain ⟨m0, m1, m2, m3⟩ := A0_x0.cells
    rw [HW0.out] at q00 q01 m0 m1 m2 m3
    go_wp2_with fail
    rw [← HW0.out]
    clear q00 q01 m0 m1 m2 m3
    refine (refRepoError_of _ r _ x0 ⟨_, _, rfl, hc0_x0, hh0_x0⟩ he).mono ?_; rintro e w1 ⟨_, rfl, rfl, bw1⟩
    have hc0_w1 := hc0_x0.call bw1
    have hh0_w1 := hh0_x0.call bw1
    have hd_w1 := hd_x0.call bw1
    have hl_w1 := hl_x0.call bw1
    have B0_w1 := B0_x0.call bw1
    have A0_w1 := A0_x0.call bw1
    clear hc0_x0 hh0_x0 hd_x0 hl_x0 B0_x0 A0_x0
    have b0w1 := b0x0.trans (bw1.mono zx0)
    have zw1 := b0w1.size
    go_wp2_with fail
    refine (refRowsErr_of _ l _ w1 hl_w1 hc).mono ?_; rintro e w2 ⟨_, rfl, rfl, bw2⟩
    have hc0_w2 := hc0_w1.call bw2
    have hh0_w2 := hh0_w1.call bw2
    have hd_w2 := hd_w1.call bw2
    have hl_w2 := hl_w1.call bw2
    have B0_w2 := B0_w1.call bw2
    have A0_w2 := A0_w1.call bw2
    clear hc0_w1 hh0_w1 hd_w1 hl_w1 B0_w1 A0_w1
    have b0w2 := b0w1.trans (bw2.mono zw1)
    have zw2 := b0w2.size
    go_wp2_with fail
    refine (logBegun _).mono ?_; rintro e w3 ⟨_, rfl, rfl, bw3⟩
    have hc0_w3 := hc0_w2.call bw3
    have hh0_w3 := hh0_w2.call bw3
    have hd_w3 := hd_w2.call bw3
    have hl_w3 := hl_w2.call bw3
    have B0_w3 := B0_w2.call bw3
    have A0_w3 := A0_w2.call bw3
    clear hc0_w2 hh0_w2 hd_w2 hl_w2 B0_w2 A0_w2
    have b0w3 := b0w2.trans (bw3.mono zw2)
    have zw3 := b0w3.size
    go_wp2
    go_ret
    exact ⟨_, rfl, rfl, b0w3⟩
  have hw := Decidable.not_not.1 hw
  obtain ⟨f1, f2, f3⟩ := repo_few he
  have h40 := (ok_rise hw).1
  have hbp : buildP l = (treeL l, 0) := buildP_is hw
  go_enter Tryz.func3, Tryz.ntmps3
  have q00 := B0_x0.cell0
  have q01 := B0_x0.cell1
  obtain ⟨m0, m1, m2, m3⟩ := A0_x0.cells
  rw [HW0.out] at q00 q01 m0 m1 m2 m3
  go_wp2_with fail
  rw [← HW0.out]
  clear q00 q01 m0 m1 m2 m3
  refine (refRepoError_of _ r _ x0 ⟨_, _, rfl, hc0_x0, hh0_x0⟩ he).mono ?_; rintro e w1 ⟨_, rfl, rfl, bw1⟩
  have hc0_w1 := hc0_x0.call bw1
  have hh0_w1 := hh0_x0.call bw1
  have hd_w1 := hd_x0.call bw1
  have hl_w1 := hl_x0.call bw1
  have B0_w1 := B0_x0.call bw1
  have A0_w1 := A0_x0.call bw1
  clear hc0_x0 hh0_x0 hd_x0 hl_x0 B0_x0 A0_x0
  have b0w1 := b0x0.trans (bw1.mono zx0)
  have zw1 := b0w1.size
  go_wp2_with fail
  refine (refRowsErr_of _ l _ w1 hl_w1 hw).mono ?_; rintro e w2 ⟨_, rfl, rfl, bw2⟩
  have hc0_w2 := hc0_w1.call bw2
  have hh0_w2 := hh0_w1.call bw2
  have hd_w2 := hd_w1.call bw2
  have hl_w2 := hl_w1.call bw2
  have B0_w2 := B0_w1.call bw2
  have A0_w2 := A0_w1.call bw2
  clear hc0_w1 hh0_w1 hd_w1 hl_w1 B0_w1 A0_w1
  have b0w2 := b0w1.trans (bw2.mono zw1)
  have zw2 := b0w2.size
  have q00 := B0_w2.cell0
  have q01 := B0_w2.cell1
  go_wp2_with fail
  clear q00 q01
  refine (refOwnS _ r _ w2 ⟨_, _, rfl, hc0_w2, hh0_w2⟩ (by omega) (by omega) f3).mono ?_; rintro e w3 ⟨_, rfl, hy1, bw3⟩
  have hc0_w3 := hc0_w2.call bw3
  have hh0_w3 := hh0_w2.call bw3
  have hd_w3 := hd_w2.call bw3
  have hl_w3 := hl_w2.call bw3
  have B0_w3 := B0_w2.call bw3
  have A0_w3 := A0_w2.call bw3
  clear hc0_w2 hh0_w2 hd_w2 hl_w2 B0_w2 A0_w2
  have b0w3 := b0w2.trans (bw3.mono zw2)
  have zw3 := b0w3.size
  obtain ⟨vc1, vh1, rfl, hc1_w3, hh1_w3⟩ := hy1
  obtain ⟨ac1, cc1, hvc1, _, _, _⟩ := hc1_w3.shape
  obtain ⟨ah1, ch1, hvh1, _, _, _⟩ := hh1_w3.shape
  obtain ⟨nc1, hnc1⟩ : ∃ n, n = r.1.length := ⟨_, rfl⟩
  obtain ⟨nh1, hnh1⟩ : ∃ n, n = r.2.length := ⟨_, rfl⟩
  rw [← hnc1] at hvc1
  rw [← hnh1] at hvh1
  clear hnc1 hnh1
  subst hvc1 hvh1
  obtain ⟨x1, hwx1⟩ : ∃ x, x = (w3.alloc (.cells #[.slice ac1 nc1 cc1, .slice ah1 nh1 ch1] 25)).alloc (.cells #[] 44) := ⟨_, rfl⟩
  have bl1 : Below w3.heap.size w3 x1 := by rw [hwx1]; exact ((Below.refl _ _).alloc (Nat.le_refl _) _).alloc (by simp) _
  have B1_x1 : BoxRow x1 w3.heap.size (.slice ac1 nc1 cc1) (.slice ah1 nh1 ch1) := by rw [hwx1]; exact ⟨(Below.heap_alloc _ _ _ (by simp)).trans (heap_alloc_new _ _)⟩
  have hem : x1.heap[w3.heap.size + 1]? = some (.cells #[] 44) := by rw [hwx1]; have := heap_alloc_new (w3.alloc (.cells #[.slice ac1 nc1 cc1, .slice ah1 nh1 ch1] 25)) (.cells #[] 44); rwa [show (w3.alloc (.cells #[.slice ac1 nc1 cc1, .slice ah1 nh1 ch1] 25)).heap.size = w3.heap.size + 1 by simp] at this
  have zx1' : x1.heap.size = w3.heap.size + 2 := by rw [hwx1]; simp
  have HW1 := keepBack hwx1
  clear hwx1
  have hl_x1 := hl_w3.call bl1
  rw [HW1.out] at hem
  have hlS := hl_x1.old.src
  rw [HW1.out] at hlS
  have hln' := hln
  go_wp2_with (at_builtin; refine wpList_grow rfl (.tmp 39) (.tmp 40) rfl aRow rfl (Own.emptyAt (B := w3.heap.size + 1) (C := fun _ => False) hem (by omega)) rfl rfl (Src.row (D' := fun _ => False) hlS) hln' (fun _ h => h.elim) (by simp; omega) (by simp) ?_)
  intro vm w4 hom hg4
  rw [← HW1.out] at hg4
  have b34 : Below w3.heap.size w3 w4 := bl1.grown hg4 (by omega) (fun g hg => by simp [Value.ownBlock] at hg; omega)
  have bx4 : Below (w3.heap.size + 1) x1 w4 := (Below.refl _ _).grown hg4 (by omega) (fun g hg => by simp [Value.ownBlock] at hg; omega)
  have hc0_w4 := hc0_w3.call b34
  have hh0_w4 := hh0_w3.call b34
  have hd_w4 := hd_w3.call b34
  have hl_w4 := hl_w3.call b34
  have B0_w4 := B0_w3.call b34
  have A0_w4 := A0_w3.call b34
  have hc1_w4 := hc1_w3.call b34
  have hh1_w4 := hh1_w3.call b34
  clear hc0_w3 hh0_w3 hd_w3 hl_w3 B0_w3 A0_w3 hc1_w3 hh1_w3
  have b0w4 := b0w3.trans (b34.mono zw3)
  have zw4 := b0w4.size
  have B1_w4 : BoxRow w4 w3.heap.size (.slice ac1 nc1 cc1) (.slice ah1 nh1 ch1) := ⟨(bx4.block w3.heap.size (by omega)).trans B1_x1.row⟩
  have hm_w4 : Sl tRow w4 (fun k => w3.heap.size ≤ k) vm l := hom.sl (D := fun k => w3.heap.size ≤ k) (fun _ h => h.elim) (fun k hk => by omega)
  obtain ⟨am, cm, rfl, _, _⟩ := hom.shape
  clear hom hem hlS hln' hl_x1 B1_x1
  have q00 := B0_w4.cell0
  have q01 := B0_w4.cell1
  obtain ⟨m0, m1, m2, m3⟩ := A0_w4.cells
  go_wp2_with fail
  clear q00 q01
  clear m0 m1 m2 m3
  refine (logDo_of _ _ r (k, a, b, d) _ _ w4 ⟨_, _, rfl, hc0_w4, hh0_w4⟩ ⟨_, rfl, hd_w4⟩ hp).mono ?_; rintro e w5 ⟨_, rfl, ⟨y2, rfl, hy2⟩, bw5⟩
  have zw5 := bw5.size
  obtain ⟨vc2, vh2, rfl, hc2_w5, hh2_w5⟩ := hy2
  have hc2_w5 := hc2_w5.mono (S' := fun k => w4.heap.size ≤ k ∧ k < w5.heap.size) fun k h1 h2 => ⟨h1, h2⟩
  have hh2_w5 := hh2_w5.mono (S' := fun k => w4.heap.size ≤ k ∧ k < w5.heap.size) fun k h1 h2 => ⟨h1, h2⟩
  generalize p.1.1 = pc at hc2_w5
  generalize p.1.2 = ph at hh2_w5
  obtain ⟨ac2, cc2, hvc2, _, _, _⟩ := hc2_w5.shape
  obtain ⟨ah2, ch2, hvh2, _, _, _⟩ := hh2_w5.shape
  obtain ⟨nc2, hnc2⟩ : ∃ n, n = pc.length := ⟨_, rfl⟩
  obtain ⟨nh2, hnh2⟩ : ∃ n, n = ph.length := ⟨_, rfl⟩
  rw [← hnc2] at hvc2
  rw [← hnh2] at hvh2
  subst hvc2 hvh2
  have HNC := keepBack hnc2
  have HNH := keepBack hnh2
  clear hnc2 hnh2
  obtain ⟨x2, hwx2⟩ : ∃ x, x = w5.alloc (.cells #[.slice ac2 nc2 cc2, .slice ah2 nh2 ch2] 25) := ⟨_, rfl⟩
  have bl2 : Below w5.heap.size w5 x2 := by rw [hwx2]; exact (Below.refl _ _).alloc (Nat.le_refl _) _
  have B2_x2 : BoxRow x2 w5.heap.size (.slice ac2 nc2 cc2) (.slice ah2 nh2 ch2) := by rw [hwx2]; exact ⟨heap_alloc_new _ _⟩
  have zx2 : x2.heap.size = w5.heap.size + 1 := by rw [hwx2]; simp
  have HW2 := keepBack hwx2
  clear hwx2
  have hl_x2 := (hl_w4.call bw5).call bl2
  have HZ2 := keepBack zx2
  clear zx2
  go_wp2_with fail
  rw [← HW2.out]
  refine (treeBuildS _ _ x2 hl_x2 hbp).mono ?_; rintro e w6 ⟨_, rfl, ⟨yt, rfl, hyt⟩, bw6⟩
  have zw6 := bw6.size
  have hc2_w6 := (hc2_w5.call bl2).call bw6
  have hh2_w6 := (hh2_w5.call bl2).call bw6
  have B2_w6 := B2_x2.call bw6
  have b46 := bw5.trans ((bl2.trans (bw6.mono bl2.size)).mono zw5)
  have hyt := hyt.mono (S' := fun k => x2.heap.size ≤ k ∧ k < w6.heap.size) fun k h1 h2 => ⟨h1, h2⟩
  generalize treeL l = tl at hyt
  obtain ⟨at2, ct2, hvt2, _, _, _⟩ := hyt.shape
  obtain ⟨nt2, hnt2⟩ : ∃ n, n = tl.length := ⟨_, rfl⟩
  rw [← hnt2] at hvt2
  subst hvt2
  have HNT := keepBack hnt2
  clear hnt2
  clear hc2_w5 hh2_w5 B2_x2 hl_x2
  obtain ⟨gC, oC, HC⟩ := coms_at hc2_w6 aCom HNC.out
  have B2c := B2_w6.cell0
  have B2h := B2_w6.cell1
  have HB : ∀ k i, ¬ comX gC oC k ⟨w5.heap.size, i, none⟩ ∨ nc2 = 0 := fun k i => by rcases Nat.eq_zero_or_pos nc2 with h0 | h0; exact .inr h0; exact .inl (comX_block (by obtain ⟨_, _, _, _, _, _, _, _, _, h, _⟩ := HC 0 h0; omega))
  go_wp2_with fail
  have zAll : w5.heap.size ≤ w6.heap.size := Nat.le_trans bl2.size zw6
  have lb2 := hc2_w6.lenB
  have lbh := hh2_w6.lenB
  have lbt := hyt.lenB
  clear bx4 bl1 HW1 zx1' hg4 B2_w6
  have zx2 := HZ2.out
  go_loopw [13] (fun i wr => ∃ k : Nat, k ≤ nc2 ∧ i = .int .i64 k ∧ Kin w6 wr w4.heap.size w6.heap.size (comX gC oC k)) (fun i _ => nc2 - (intOf i).toNat)
  case atStart => exact ⟨0, Nat.zero_le _, rfl, Kin.refl _ _ _ _⟩
  case round =>
    obtain ⟨kk, hk, rfl, hK⟩ := hrel
    have hbx : ∀ i, ¬ comX gC oC kk ⟨w5.heap.size, i, none⟩ := fun i => by rcases HB kk i with h | h; exact h; rw [show kk = 0 by omega]; exact comX_zero
    have q20 := (hK.slices _ _ _ _ B2c).1 (hbx 0)
    by_cases hlt : kk < nc2
    · obtain ⟨a1, n1, c1, a2, n2, c2, lr, lp, hix, hgC, hr, HN1, hpp, HN2, p0, p1, fz0, fz1⟩ := HC kk hlt
      have lb1 := hr.lenB
      have lbp := hpp.lenB
      have c0 := (hK.slices _ _ _ _ p0).1 comX_own.1
      obtain ⟨wo, rfl⟩ : ∃ wo : World, wo = wr := ⟨_, rfl⟩
      go_wp2_with fail
      clear q20 c0
      go_loopw [14] (fun i wr => ∃ j : Nat, j ≤ n1 ∧ i = .int .i64 j ∧ Kin w6 wr w4.heap.size w6.heap.size (comX gC oC kk)) (fun i _ => n1 - (intOf i).toNat)
      case atStart => exact ⟨0, Nat.zero_le _, rfl, hK⟩
      case round =>
        clear hK
        obtain ⟨j, hj, rfl, hK⟩ := hrel
        have q20 := (hK.slices _ _ _ _ B2c).1 (hbx 0)
        have c0 := (hK.slices _ _ _ _ p0).1 comX_own.1
        by_cases hltj : j < n1
        · obtain ⟨b', o', x', y', hix2, hS2, v0, v1, e0, e1⟩ := hr.idxRowF aRow j j rfl (by rw [HN1.out]; exact hltj)
          obtain ⟨m0, u0⟩ := hK.ints _ _ _ v0
          obtain ⟨m1, u1⟩ := hK.ints _ _ _ v1
          have g0 := (hK.free _).trans e0
          have g1 := (hK.free _).trans e1
          obtain ⟨hgC1, hgC2⟩ := hgC
          obtain ⟨hS21, hS22⟩ := hS2
          go_wp2_with fail
          go_roundw
          case rel => exact ⟨j + 1, by omega, by go_num, (hK.setInt v0 (Nat.le_trans hS21 (Nat.le_refl _)) (Nat.lt_of_lt_of_le hS22 zAll)).setInt v1 (Nat.le_trans hS21 (Nat.le_refl _)) (Nat.lt_of_lt_of_le hS22 zAll)⟩
          case measure => simp [intOf]; omega
        · obtain rfl : j = n1 := by omega
          go_wp2_with fail
          clear q20 c0
          obtain ⟨wo2, rfl⟩ : ∃ wo : World, wo = wr := ⟨_, rfl⟩
          go_loopw [15] (fun i wr => ∃ j : Nat, j ≤ n2 ∧ i = .int .i64 j ∧ Kin w6 wr w4.heap.size w6.heap.size (comX gC oC kk)) (fun i _ => n2 - (intOf i).toNat)
          case atStart => exact ⟨0, Nat.zero_le _, rfl, hK⟩
          case round =>
            clear hK hj hltj
            obtain ⟨j, hj, rfl, hK⟩ := hrel
            have q20 := (hK.slices _ _ _ _ B2c).1 (hbx 0)
            have c1' := (hK.slices _ _ _ _ p1).1 comX_own.2
            by_cases hltj : j < n2
            · obtain ⟨b', o', x', hix2, hS2, v0, e0⟩ := hpp.idxIntF aInt j j rfl (by rw [HN2.out]; exact hltj)
              obtain ⟨m0, u0⟩ := hK.ints _ _ _ v0
              have g0 := (hK.free _).trans e0
              obtain ⟨hS21, hS22⟩ := hS2
              go_wp2_with fail
              go_roundw
              case rel => exact ⟨j + 1, by omega, by go_num, hK.setInt v0 (Nat.le_trans hS21 (Nat.le_refl _)) (Nat.lt_of_lt_of_le hS22 zAll)⟩
              case measure => simp [intOf]; omega
            · obtain rfl : j = n2 := by omega
              obtain ⟨hgC1, hgC2⟩ := hgC
              have g0 := (hK.free _).trans fz0
              have g1 := (hK.free _).trans fz1
              obtain ⟨_, _, _, d0⟩ := (hK.slices _ _ _ _ p0).2
              go_wp2_with fail
              go_roundw
              case rel => exact ⟨kk + 1, by omega, by go_num, ((hK.mono fun _ h => comX_next h).setSlice p0 comX_new.1 hgC1 (Nat.lt_of_lt_of_le hgC2 zAll)).setSlice p1 comX_new.2 hgC1 (Nat.lt_of_lt_of_le hgC2 zAll)⟩
              case measure => simp [intOf]; omega
    · obtain rfl : kk = nc2 := by omega
      go_wp2_with fail
      clear q20
      obtain ⟨wo3, rfl⟩ : ∃ wo : World, wo = wr := ⟨_, rfl⟩
      go_loopw [16] (fun i wr => ∃ j : Nat, j ≤ nh2 ∧ i = .int .i64 j ∧ Kin w6 wr w4.heap.size w6.heap.size (comX gC oC kk)) (fun i _ => nh2 - (intOf i).toNat)
      case atStart => exact ⟨0, Nat.zero_le _, rfl, hK⟩
      case round =>
        clear hK hk hlt
        obtain ⟨j, hj, rfl, hK⟩ := hrel
        have q21 := (hK.slices _ _ _ _ B2h).1 (hbx 1)
        by_cases hlt : j < nh2
        · obtain ⟨b', o', x', y', hix2, hS2, v0, v1, e0, e1⟩ := hh2_w6.idxHeadF aHead j j rfl (by rw [← HNH.out]; exact hlt)
          obtain ⟨m0, u0⟩ := hK.strs _ _ v0
          obtain ⟨m1, u1⟩ := hK.ints _ _ _ v1
          have g0 := (hK.free _).trans e0
          have g1 := (hK.free _).trans e1
          obtain ⟨hS21, hS22⟩ := hS2
          go_wp2_with fail
          go_roundw
          case rel => exact ⟨j + 1, by omega, by go_num, (hK.setStr v0 (Nat.le_trans hS21 (Nat.le_refl _)) (Nat.lt_of_lt_of_le hS22 zAll)).setInt v1 (Nat.le_trans hS21 (Nat.le_refl _)) (Nat.lt_of_lt_of_le hS22 zAll)⟩
          case measure => simp [intOf]; omega
        · obtain rfl : j = nh2 := by omega
          go_wp2_with fail
          clear q21
          obtain ⟨wo4, rfl⟩ : ∃ wo : World, wo = wr := ⟨_, rfl⟩
          have hX : ∀ k (a : Addr), w6.heap.size ≤ k → True := fun _ _ _ => trivial
          have hTX : ∀ (b i : Nat), x2.heap.size ≤ b → ¬ comX gC oC kk ⟨b, i, none⟩ := fun b i hb => by rcases Nat.eq_zero_or_pos kk with h0 | h0; rw [h0]; exact comX_zero; exact comX_block (by obtain ⟨_, _, _, _, _, _, _, _, _, h, _⟩ := HC 0 h0; omega)
          go_loopw [17] (fun i wr => ∃ j : Nat, j ≤ nt2 ∧ i = .int .i64 j ∧ Kin w6 wr w4.heap.size w6.heap.size (comX gC oC kk)) (fun i _ => nt2 - (intOf i).toNat)
          case atStart => exact ⟨0, Nat.zero_le _, rfl, hK⟩
          case round =>
            clear hK hj hlt
            obtain ⟨t1, ht1, rfl, hK⟩ := hrel
            by_cases hlt1 : t1 < nt2
            · obtain ⟨b1, o1, a1, n1, c1, ll1, ix1, hb1, e1, hs1, HN1⟩ := sl_at hyt aTree HNT.out t1 hlt1
              have lb1 := hs1.lenB
              go_wp2_with fail
              obtain ⟨wo5, rfl⟩ : ∃ wo : World, wo = wr := ⟨_, rfl⟩
              go_loopw [18] (fun i wr => ∃ j : Nat, j ≤ n1 ∧ i = .int .i64 j ∧ Kin w6 wr w4.heap.size w6.heap.size (comX gC oC kk)) (fun i _ => n1 - (intOf i).toNat)
              case atStart => exact ⟨0, Nat.zero_le _, rfl, hK⟩
              case round =>
                clear hK 
                obtain ⟨t2, ht2, rfl, hK⟩ := hrel
                have v1 := (hK.slices _ _ _ _ e1).1 (hTX _ _ hb1.1)
                by_cases hlt2 : t2 < n1
                · obtain ⟨b2, o2, a2, n2, c2, ll2, ix2, hb2, e2, hs2, HN2⟩ := sl_at hs1 aLev HN1.out t2 hlt2
                  have lbb := hs2.lenB
                  go_wp2_with fail
                  clear v1
                  obtain ⟨wo6, rfl⟩ : ∃ wo : World, wo = wr := ⟨_, rfl⟩
                  go_loopw [19] (fun i wr => ∃ j : Nat, j ≤ n2 ∧ i = .int .i64 j ∧ Kin w6 wr w4.heap.size w6.heap.size (comX gC oC kk)) (fun i _ => n2 - (intOf i).toNat)
                  case atStart => exact ⟨0, Nat.zero_le _, rfl, hK⟩
                  case round =>
                    clear hK 
                    obtain ⟨t3, ht3, rfl, hK⟩ := hrel
                    have v1 := (hK.slices _ _ _ _ e1).1 (hTX _ _ hb1.1)
                    have v2 := (hK.slices _ _ _ _ e2).1 (hTX _ _ hb2.1)
                    by_cases hlt3 : t3 < n2
                    · obtain ⟨b', o', x', y', ix3, hS2, v0, v3, f0, f1⟩ := hs2.idxRowF aRow t3 t3 rfl (by rw [← HN2.out]; exact hlt3)
                      obtain ⟨m0, u0⟩ := hK.ints _ _ _ v0
                      obtain ⟨m1, u1⟩ := hK.ints _ _ _ v3
                      have g0 := (hK.free _).trans f0
                      have g1 := (hK.free _).trans f1
                      obtain ⟨hS21, hS22⟩ := hS2
                      go_wp2_with fail
                      go_roundw
                      case rel => exact ⟨t3 + 1, by omega, by go_num, (hK.setInt v0 (Nat.le_trans (by omega) hS21) hS22).setInt v3 (Nat.le_trans (by omega) hS21) hS22⟩
                      case measure => simp [intOf]; omega
                    · obtain rfl : t3 = n2 := by omega
                      go_wp2_with fail
                      go_roundw
                      case rel => exact ⟨t2 + 1, by omega, by go_num, hK⟩
                      case measure => simp [intOf]; omega
                · obtain rfl : t2 = n1 := by omega
                  go_wp2_with fail
                  go_roundw
                  case rel => exact ⟨t1 + 1, by omega, by go_num, hK⟩
                  case measure => simp [intOf]; omega
            · obtain rfl : t1 = nt2 := by omega
              obtain ⟨w7, rfl⟩ : ∃ wo : World, wo = wr := ⟨_, rfl⟩
              have b47 := b46.trans hK.low
              have hc0_w7 := hc0_w4.call b47
              have hh0_w7 := hh0_w4.call b47
              have hd_w7 := hd_w4.call b47
              have hl_w7 := hl_w4.call b47
              have B0_w7 := B0_w4.call b47
              have A0_w7 := A0_w4.call b47
              have hc1_w7 := hc1_w4.call b47
              have hh1_w7 := hh1_w4.call b47
              have B1_w7 := B1_w4.call b47
              have hm_w7 := hm_w4.call b47
              clear hc0_w4 hh0_w4 hd_w4 hl_w4 B0_w4 A0_w4 hc1_w4 hh1_w4 B1_w4 hm_w4
              have b0w7 := b0w4.trans (b47.mono zw4)
              have zw7 := b0w7.size
              have q00 := B0_w7.cell0
              have q01 := B0_w7.cell1
              obtain ⟨m0, m1, m2, m3⟩ := A0_w7.cells
              go_wp2_with fail
              clear q00 q01
              clear m0 m1 m2 m3
              refine (logDo_of _ _ r (k, a, b, d) _ _ w7 ⟨_, _, rfl, hc0_w7, hh0_w7⟩ ⟨_, rfl, hd_w7⟩ hp).mono ?_; rintro e w8 ⟨_, rfl, ⟨y3, rfl, hy3⟩, bw8⟩
              have hc0_w8 := hc0_w7.call bw8
              have hh0_w8 := hh0_w7.call bw8
              have hd_w8 := hd_w7.call bw8
              have hl_w8 := hl_w7.call bw8
              have B0_w8 := B0_w7.call bw8
              have A0_w8 := A0_w7.call bw8
              have hc1_w8 := hc1_w7.call bw8
              have hh1_w8 := hh1_w7.call bw8
              have B1_w8 := B1_w7.call bw8
              have hm_w8 := hm_w7.call bw8
              clear hc0_w7 hh0_w7 hd_w7 hl_w7 B0_w7 A0_w7 hc1_w7 hh1_w7 B1_w7 hm_w7
              have b0w8 := b0w7.trans (bw8.mono zw7)
              have zw8 := b0w8.size
              obtain ⟨vc3, vh3, rfl, hc3_w8, hh3_w8⟩ := hy3
              obtain ⟨ac3, cc3, hvc3, _, _, _⟩ := hc3_w8.shape
              obtain ⟨ah3, ch3, hvh3, _, _, _⟩ := hh3_w8.shape
              obtain ⟨nc3, hnc3⟩ : ∃ n, n = p.1.1.length := ⟨_, rfl⟩
              obtain ⟨nh3, hnh3⟩ : ∃ n, n = p.1.2.length := ⟨_, rfl⟩
              rw [← hnc3] at hvc3
              rw [← hnh3] at hvh3
              clear hnc3 hnh3
              subst hvc3 hvh3
              obtain ⟨x3, hwx3⟩ : ∃ x, x = w8.alloc (.cells #[.slice ac3 nc3 cc3, .slice ah3 nh3 ch3] 25) := ⟨_, rfl⟩
              have bl3 : Below w8.heap.size w8 x3 := by rw [hwx3]; exact (Below.refl _ _).alloc (Nat.le_refl _) _
              have B3_x3 : BoxRow x3 w8.heap.size (.slice ac3 nc3 cc3) (.slice ah3 nh3 ch3) := by rw [hwx3]; exact ⟨heap_alloc_new _ _⟩
              have HW3 := keepBack hwx3
              clear hwx3
              have hc0_x3 := hc0_w8.call bl3
              have hh0_x3 := hh0_w8.call bl3
              have hd_x3 := hd_w8.call bl3
              have hl_x3 := hl_w8.call bl3
              have B0_x3 := B0_w8.call bl3
              have A0_x3 := A0_w8.call bl3
              have hc1_x3 := hc1_w8.call bl3
              have hh1_x3 := hh1_w8.call bl3
              have B1_x3 := B1_w8.call bl3
              have hm_x3 := hm_w8.call bl3
              have hc3_x3 := hc3_w8.call bl3
              have hh3_x3 := hh3_w8.call bl3
              clear hc0_w8 hh0_w8 hd_w8 hl_w8 B0_w8 A0_w8 hc1_w8 hh1_w8 B1_w8 hm_w8 hc3_w8 hh3_w8
              have b0x3 := b0w8.trans (bl3.mono zw8)
              have zx3 := b0x3.size
              go_wp2_with fail
              rw [← HW3.out]
              refine (treeBuildS _ _ x3 hl_x3 hbp).mono ?_; rintro e w9 ⟨_, rfl, ⟨v2, rfl, ht_w9⟩, bw9⟩
              have hc0_w9 := hc0_x3.call bw9
              have hh0_w9 := hh0_x3.call bw9
              have hd_w9 := hd_x3.call bw9
              have hl_w9 := hl_x3.call bw9
              have B0_w9 := B0_x3.call bw9
              have A0_w9 := A0_x3.call bw9
              have hc1_w9 := hc1_x3.call bw9
              have hh1_w9 := hh1_x3.call bw9
              have B1_w9 := B1_x3.call bw9
              have hm_w9 := hm_x3.call bw9
              have hc3_w9 := hc3_x3.call bw9
              have hh3_w9 := hh3_x3.call bw9
              have B3_w9 := B3_x3.call bw9
              clear hc0_x3 hh0_x3 hd_x3 hl_x3 B0_x3 A0_x3 hc1_x3 hh1_x3 B1_x3 hm_x3 hc3_x3 hh3_x3 B3_x3
              have b0w9 := b0x3.trans (bw9.mono zx3)
              have zw9 := b0w9.size
              obtain ⟨at8, ct8, hvt8, _, _, _⟩ := ht_w9.shape
              obtain ⟨nt8, hnt8⟩ : ∃ n, n = (treeL l).length := ⟨_, rfl⟩
              rw [← hnt8] at hvt8
              clear hnt8
              subst hvt8
              have q00 := B0_w9.cell0
              have q01 := B0_w9.cell1
              obtain ⟨m0, m1, m2, m3⟩ := A0_w9.cells
              go_wp2_with fail
              clear q00 q01
              clear m0 m1 m2 m3
              refine (refDoOf_of _ _ r (k, a, b, d) _ _ w9 hz ⟨_, _, rfl, hc0_w9, hh0_w9⟩ ⟨_, rfl, hd_w9⟩ hp).mono ?_; rintro e w10 ⟨_, rfl, ⟨y4, rfl, hy4⟩, bw10⟩
              have hc0_w10 := hc0_w9.call bw10
              have hh0_w10 := hh0_w9.call bw10
              have hd_w10 := hd_w9.call bw10
              have hl_w10 := hl_w9.call bw10
              have B0_w10 := B0_w9.call bw10
              have A0_w10 := A0_w9.call bw10
              have hc1_w10 := hc1_w9.call bw10
              have hh1_w10 := hh1_w9.call bw10
              have B1_w10 := B1_w9.call bw10
              have hm_w10 := hm_w9.call bw10
              have hc3_w10 := hc3_w9.call bw10
              have hh3_w10 := hh3_w9.call bw10
              have B3_w10 := B3_w9.call bw10
              have ht_w10 := ht_w9.call bw10
              clear hc0_w9 hh0_w9 hd_w9 hl_w9 B0_w9 A0_w9 hc1_w9 hh1_w9 B1_w9 hm_w9 hc3_w9 hh3_w9 B3_w9 ht_w9
              have b0w10 := b0w9.trans (bw10.mono zw9)
              have zw10 := b0w10.size
              obtain ⟨vc4, vh4, rfl, hc4_w10, hh4_w10⟩ := hy4
              obtain ⟨ac4, cc4, hvc4, _, _, _⟩ := hc4_w10.shape
              obtain ⟨ah4, ch4, hvh4, _, _, _⟩ := hh4_w10.shape
              obtain ⟨nc4, hnc4⟩ : ∃ n, n = p.1.1.length := ⟨_, rfl⟩
              obtain ⟨nh4, hnh4⟩ : ∃ n, n = p.1.2.length := ⟨_, rfl⟩
              rw [← hnc4] at hvc4
              rw [← hnh4] at hvh4
              clear hnc4 hnh4
              subst hvc4 hvh4
              obtain ⟨x4, hwx4⟩ : ∃ x, x = w10.alloc (.cells #[.slice ac4 nc4 cc4, .slice ah4 nh4 ch4] 25) := ⟨_, rfl⟩
              have bl4 : Below w10.heap.size w10 x4 := by rw [hwx4]; exact (Below.refl _ _).alloc (Nat.le_refl _) _
              have B4_x4 : BoxRow x4 w10.heap.size (.slice ac4 nc4 cc4) (.slice ah4 nh4 ch4) := by rw [hwx4]; exact ⟨heap_alloc_new _ _⟩
              have HW4 := keepBack hwx4
              clear hwx4
              have hc0_x4 := hc0_w10.call bl4
              have hh0_x4 := hh0_w10.call bl4
              have hd_x4 := hd_w10.call bl4
              have hl_x4 := hl_w10.call bl4
              have B0_x4 := B0_w10.call bl4
              have A0_x4 := A0_w10.call bl4
              have hc1_x4 := hc1_w10.call bl4
              have hh1_x4 := hh1_w10.call bl4
              have B1_x4 := B1_w10.call bl4
              have hm_x4 := hm_w10.call bl4
              have hc3_x4 := hc3_w10.call bl4
              have hh3_x4 := hh3_w10.call bl4
              have B3_x4 := B3_w10.call bl4
              have ht_x4 := ht_w10.call bl4
              have hc4_x4 := hc4_w10.call bl4
              have hh4_x4 := hh4_w10.call bl4
              clear hc0_w10 hh0_w10 hd_w10 hl_w10 B0_w10 A0_w10 hc1_w10 hh1_w10 B1_w10 hm_w10 hc3_w10 hh3_w10 B3_w10 ht_w10 hc4_w10 hh4_w10
              have b0x4 := b0w10.trans (bl4.mono zw10)
              have zx4 := b0x4.size
              go_wp2_with fail
              rw [← HW4.out]
              refine (refBuildS _ _ x4 hl_x4 hbp).mono ?_; rintro e w11 ⟨_, rfl, ⟨v3, rfl, hu_w11⟩, bw11⟩
              have hc0_w11 := hc0_x4.call bw11
              have hh0_w11 := hh0_x4.call bw11
              have hd_w11 := hd_x4.call bw11
              have hl_w11 := hl_x4.call bw11
              have B0_w11 := B0_x4.call bw11
              have A0_w11 := A0_x4.call bw11
              have hc1_w11 := hc1_x4.call bw11
              have hh1_w11 := hh1_x4.call bw11
              have B1_w11 := B1_x4.call bw11
              have hm_w11 := hm_x4.call bw11
              have hc3_w11 := hc3_x4.call bw11
              have hh3_w11 := hh3_x4.call bw11
              have B3_w11 := B3_x4.call bw11
              have ht_w11 := ht_x4.call bw11
              have hc4_w11 := hc4_x4.call bw11
              have hh4_w11 := hh4_x4.call bw11
              have B4_w11 := B4_x4.call bw11
              clear hc0_x4 hh0_x4 hd_x4 hl_x4 B0_x4 A0_x4 hc1_x4 hh1_x4 B1_x4 hm_x4 hc3_x4 hh3_x4 B3_x4 ht_x4 hc4_x4 hh4_x4 B4_x4
              have b0w11 := b0x4.trans (bw11.mono zx4)
              have zw11 := b0w11.size
              obtain ⟨at9, ct9, hvt9, _, _, _⟩ := hu_w11.shape
              obtain ⟨nt9, hnt9⟩ : ∃ n, n = (treeL l).length := ⟨_, rfl⟩
              rw [← hnt9] at hvt9
              clear hnt9
              subst hvt9
              go_wp2_with fail
              refine (logBegun _).mono ?_; rintro e w12 ⟨_, rfl, rfl, bw12⟩
              have hc0_w12 := hc0_w11.call bw12
              have hh0_w12 := hh0_w11.call bw12
              have hd_w12 := hd_w11.call bw12
              have hl_w12 := hl_w11.call bw12
              have B0_w12 := B0_w11.call bw12
              have A0_w12 := A0_w11.call bw12
              have hc1_w12 := hc1_w11.call bw12
              have hh1_w12 := hh1_w11.call bw12
              have B1_w12 := B1_w11.call bw12
              have hm_w12 := hm_w11.call bw12
              have hc3_w12 := hc3_w11.call bw12
              have hh3_w12 := hh3_w11.call bw12
              have B3_w12 := B3_w11.call bw12
              have ht_w12 := ht_w11.call bw12
              have hc4_w12 := hc4_w11.call bw12
              have hh4_w12 := hh4_w11.call bw12
              have B4_w12 := B4_w11.call bw12
              have hu_w12 := hu_w11.call bw12
              clear hc0_w11 hh0_w11 hd_w11 hl_w11 B0_w11 A0_w11 hc1_w11 hh1_w11 B1_w11 hm_w11 hc3_w11 hh3_w11 B3_w11 ht_w11 hc4_w11 hh4_w11 B4_w11 hu_w11
              have b0w12 := b0w11.trans (bw12.mono zw11)
              have zw12 := b0w12.size
              have q00 := B0_w12.cell0
              have q01 := B0_w12.cell1
              have q10 := B1_w12.cell0
              have q11 := B1_w12.cell1
              go_wp2_with fail
              clear q00 q01 q10 q11
              refine (refSameRepos _ _ r r _ _ w12 ⟨_, _, rfl, hc0_w12, hh0_w12⟩ ⟨_, _, rfl, hc1_w12, hh1_w12⟩).mono ?_; rintro e w13 ⟨_, rfl, rfl, bw13⟩
              rw [decide_eq_true rfl, decide_eq_true rfl]
              have hc0_w13 := hc0_w12.call bw13
              have hh0_w13 := hh0_w12.call bw13
              have hd_w13 := hd_w12.call bw13
              have hl_w13 := hl_w12.call bw13
              have B0_w13 := B0_w12.call bw13
              have A0_w13 := A0_w12.call bw13
              have hc1_w13 := hc1_w12.call bw13
              have hh1_w13 := hh1_w12.call bw13
              have B1_w13 := B1_w12.call bw13
              have hm_w13 := hm_w12.call bw13
              have hc3_w13 := hc3_w12.call bw13
              have hh3_w13 := hh3_w12.call bw13
              have B3_w13 := B3_w12.call bw13
              have ht_w13 := ht_w12.call bw13
              have hc4_w13 := hc4_w12.call bw13
              have hh4_w13 := hh4_w12.call bw13
              have B4_w13 := B4_w12.call bw13
              have hu_w13 := hu_w12.call bw13
              clear hc0_w12 hh0_w12 hd_w12 hl_w12 B0_w12 A0_w12 hc1_w12 hh1_w12 B1_w12 hm_w12 hc3_w12 hh3_w12 B3_w12 ht_w12 hc4_w12 hh4_w12 B4_w12 hu_w12
              have b0w13 := b0w12.trans (bw13.mono zw12)
              have zw13 := b0w13.size
              have q30 := B3_w13.cell0
              have q31 := B3_w13.cell1
              have q40 := B4_w13.cell0
              have q41 := B4_w13.cell1
              go_wp2_with fail
              clear q30 q31 q40 q41
              refine (refSameRepos _ _ p.1 p.1 _ _ w13 ⟨_, _, rfl, hc3_w13, hh3_w13⟩ ⟨_, _, rfl, hc4_w13, hh4_w13⟩).mono ?_; rintro e w14 ⟨_, rfl, rfl, bw14⟩
              rw [decide_eq_true rfl, decide_eq_true rfl]
              have hc0_w14 := hc0_w13.call bw14
              have hh0_w14 := hh0_w13.call bw14
              have hd_w14 := hd_w13.call bw14
              have hl_w14 := hl_w13.call bw14
              have B0_w14 := B0_w13.call bw14
              have A0_w14 := A0_w13.call bw14
              have hc1_w14 := hc1_w13.call bw14
              have hh1_w14 := hh1_w13.call bw14
              have B1_w14 := B1_w13.call bw14
              have hm_w14 := hm_w13.call bw14
              have hc3_w14 := hc3_w13.call bw14
              have hh3_w14 := hh3_w13.call bw14
              have B3_w14 := B3_w13.call bw14
              have ht_w14 := ht_w13.call bw14
              have hc4_w14 := hc4_w13.call bw14
              have hh4_w14 := hh4_w13.call bw14
              have B4_w14 := B4_w13.call bw14
              have hu_w14 := hu_w13.call bw14
              clear hc0_w13 hh0_w13 hd_w13 hl_w13 B0_w13 A0_w13 hc1_w13 hh1_w13 B1_w13 hm_w13 hc3_w13 hh3_w13 B3_w13 ht_w13 hc4_w13 hh4_w13 B4_w13 hu_w13
              have b0w14 := b0w13.trans (bw14.mono zw13)
              have zw14 := b0w14.size
              go_wp2_with fail
              refine (refSameRows_of (c := true) _ _ l l _ _ w14 hl_w14 hm_w14 (by simp)).mono ?_; rintro e w15 ⟨rfl, d15⟩
              have bw15 := d15.below
              have hc0_w15 := hc0_w14.call bw15
              have hh0_w15 := hh0_w14.call bw15
              have hd_w15 := hd_w14.call bw15
              have hl_w15 := hl_w14.call bw15
              have B0_w15 := B0_w14.call bw15
              have A0_w15 := A0_w14.call bw15
              have hc1_w15 := hc1_w14.call bw15
              have hh1_w15 := hh1_w14.call bw15
              have B1_w15 := B1_w14.call bw15
              have hm_w15 := hm_w14.call bw15
              have hc3_w15 := hc3_w14.call bw15
              have hh3_w15 := hh3_w14.call bw15
              have B3_w15 := B3_w14.call bw15
              have ht_w15 := ht_w14.call bw15
              have hc4_w15 := hc4_w14.call bw15
              have hh4_w15 := hh4_w14.call bw15
              have B4_w15 := B4_w14.call bw15
              have hu_w15 := hu_w14.call bw15
              clear hc0_w14 hh0_w14 hd_w14 hl_w14 B0_w14 A0_w14 hc1_w14 hh1_w14 B1_w14 hm_w14 hc3_w14 hh3_w14 B3_w14 ht_w14 hc4_w14 hh4_w14 B4_w14 hu_w14
              have b0w15 := b0w14.trans (bw15.mono zw14)
              have zw15 := b0w15.size
              go_wp2_with fail
              refine (refSameTrees_of (c := true) _ _ (treeL l) (treeL l) _ _ w15 ht_w15 hu_w15 (by simp)).mono ?_; rintro e w16 ⟨rfl, d16⟩
              have bw16 := d16.below
              have hc0_w16 := hc0_w15.call bw16
              have hh0_w16 := hh0_w15.call bw16
              have hd_w16 := hd_w15.call bw16
              have hl_w16 := hl_w15.call bw16
              have B0_w16 := B0_w15.call bw16
              have A0_w16 := A0_w15.call bw16
              have hc1_w16 := hc1_w15.call bw16
              have hh1_w16 := hh1_w15.call bw16
              have B1_w16 := B1_w15.call bw16
              have hm_w16 := hm_w15.call bw16
              have hc3_w16 := hc3_w15.call bw16
              have hh3_w16 := hh3_w15.call bw16
              have B3_w16 := B3_w15.call bw16
              have ht_w16 := ht_w15.call bw16
              have hc4_w16 := hc4_w15.call bw16
              have hh4_w16 := hh4_w15.call bw16
              have B4_w16 := B4_w15.call bw16
              have hu_w16 := hu_w15.call bw16
              clear hc0_w15 hh0_w15 hd_w15 hl_w15 B0_w15 A0_w15 hc1_w15 hh1_w15 B1_w15 hm_w15 hc3_w15 hh3_w15 B3_w15 ht_w15 hc4_w15 hh4_w15 B4_w15 hu_w15
              have b0w16 := b0w15.trans (bw16.mono zw15)
              have zw16 := b0w16.size
              go_wp2
              go_ret
              exact ⟨_, rfl, rfl, b0w16⟩

end Go.Pch
end

section
namespace Go.Pch
open Go.RowKit Go.ChangeShapes Go.WideShapes

/-- Whatever reads as data of type t reads as E says. -/
def Opens (P : Program) {α : Type} (E : Ty α) (t : TypeId) : Prop :=
  ∀ (H : Type) (enc : TypeId × Value → H) (w : World) (base : Nat) (spare : Nat → Bool) (held : Bool) (fuel : Nat) (cs : List Value) (x : DataW H × List MemPlace),
    DataW.trod enc P w base spare held fuel t cs = some x → w.noneFrozen x.2 → ∃ a, E.rd w (fun _ => True) cs a

theorem i64ok_of_wf {n : Int} (h : (Lit.int .i64 n).wf = true) : i64ok n := by
  simp only [Lit.wf, IntKind.min, IntKind.max, IntKind.signed, IntKind.bits, Bool.and_eq_true, decide_eq_true_eq, if_true] at h
  unfold i64ok
  omega

theorem Opens.int {P : Program} {t : TypeId} (ht : P.underlying t = some (.int .i64)) : Opens P tInt t := by
  intro H enc w base spare held fuel cs x h _
  obtain ⟨n, rfl, _, hw⟩ := DataW.trod_int ht h
  exact ⟨n, rfl, i64ok_of_wf hw⟩

theorem Opens.row {P : Program} {t : TypeId} {f0 f1 : Field} (ht : P.underlying t = some (.struct #[f0, f1])) (hc : P.cellsOf t = 2) (o0 : f0.offset = 0) (o1 : f1.offset = 1) (c0 : P.cellsOf f0.type = 1) (c1 : P.cellsOf f1.type = 1)
    (t0 : P.underlying f0.type = some (.int .i64)) (t1 : P.underlying f1.type = some (.int .i64)) : Opens P tRow t := by
  intro H enc w base spare held fuel cs x h _
  obtain ⟨y0, y1, n, _, hl, h0, h1⟩ := trod_struct2 ht h
  rw [hc] at hl
  match cs, hl with
  | [a, b], _ =>
    simp only [o0, o1, c0, c1, List.drop_zero, List.take_succ_cons, List.take_zero, List.drop_succ_cons] at h0 h1
    obtain ⟨p, e0, _, w0⟩ := DataW.trod_int t0 h0
    obtain ⟨q, e1, _, w1⟩ := DataW.trod_int t1 h1
    simp at e0 e1
    subst e0 e1
    exact ⟨(p, q), rfl, i64ok_of_wf w0, i64ok_of_wf w1⟩

theorem Opens.slice {P : Program} {α : Type} {E : Ty α} {t e : TypeId} (hE : Opens P E e) (ht : P.underlying t = some (.slice e)) (hc : P.cellsOf e = E.size) : Opens P E.slice t := by
  intro H enc w base spare held fuel cs x h hz
  rcases Deep.open_slice ht h with ⟨rfl, _⟩ | ⟨a, len, cap, m, n, D, Pl, rfl, hb, hl, hm, hmm, rfl, hx⟩
  · exact ⟨[], Sl.nil E w _⟩
  · have hlm : len ≤ m := by rw [hmm]; split <;> omega
    have each : ∀ i, i < len → ∃ q : List Value × α, E.rd w (fun _ => True) q.1 q.2 ∧ ∀ j u, q.1[j]? = some u → w.cell? (a.add (i * E.size + j)) = some u ∧ w.frozen? ⟨a.block, a.off + (i * E.size + j), none⟩ = false := by
      intro i hi
      obtain ⟨cs', h1, h2⟩ := hx i (by omega)
      rw [hc] at h1
      obtain ⟨_, hlen, hcell⟩ := World.cells?_some h1
      obtain ⟨b, hrd⟩ := hE H enc w base spare held n cs' _ h2 fun b off hm => hz b off (List.mem_append_right _ (List.mem_flatMap.2 ⟨i, List.mem_range.2 (by omega), hm⟩))
      refine ⟨(cs', b), hrd, fun j u hj => ?_⟩
      obtain ⟨hjl, rfl⟩ := List.getElem?_eq_some_iff.1 hj
      have hjl' : j < cs'.length := hjl
      have := hcell j (by omega)
      rw [Deep.add_add] at this
      rw [this]
      refine ⟨by simp [hjl], hz _ _ (List.mem_append_left _ (List.mem_map.2 ⟨i * E.size + j, List.mem_range.2 ?_, rfl⟩))⟩
      rw [hc]
      have hE1 := E.len hrd
      have := Nat.mul_le_mul_right E.size (show i + 1 ≤ m by omega)
      rw [Nat.add_mul] at this
      omega
    by_cases h0 : len = 0
    · subst h0
      exact ⟨[], some a, 0, cap, rfl, rfl, Nat.zero_le _, hm, by simp, by simp⟩
    · obtain ⟨q0, hr0, hc0⟩ := each 0 (by omega)
      have hne : ∃ u, q0.1[0]? = some u := by
        have := E.len hr0; have := E.pos
        exact ⟨q0.1[0], List.getElem?_eq_getElem (by omega)⟩
      obtain ⟨u0, hu0⟩ := hne
      have hcell0 := (hc0 0 u0 hu0).1
      obtain ⟨b, o, spot⟩ := a
      have hspot : spot = none := by simpa [Addr.add] using World.cell?_spot hcell0
      subst hspot
      have each' : ∀ i (x : Unit), (List.replicate len ())[i]? = some x → ∃ q : List Value × α, E.rd w (fun _ => True) q.1 q.2 ∧ ∀ j u, q.1[j]? = some u → w.cell? ⟨b, o + i * E.size + j, none⟩ = some u ∧ w.frozen? ⟨b, o + i * E.size + j, none⟩ = false := by
        intro i x hi
        have hlt : i < len := by simpa using (List.getElem?_eq_some_iff.1 hi).1
        obtain ⟨q, h1, h2⟩ := each i hlt
        exact ⟨q, h1, fun j u hj => by have := h2 j u hj; simp only at this; rwa [Addr.add_lit, ← Nat.add_assoc] at this⟩
      obtain ⟨qs, hql, hq⟩ := exists_list (List.replicate len ()) each'
      rw [List.length_replicate] at hql
      refine ⟨qs.map (·.2), some ⟨b, o, none⟩, len, cap, rfl, by simp [hql], hl, hm, by simp, fun i x hi => ⟨b, o, rfl, trivial, ?_⟩⟩
      rw [List.getElem?_map] at hi
      obtain ⟨q, hqi, rfl⟩ := Option.map_eq_some_iff.1 hi
      have hlt : i < len := by have := (List.getElem?_eq_some_iff.1 hqi).1; omega
      have := hq i q () hqi (by simp [hlt])
      exact ⟨q.1, this.1, this.2⟩

end Go.Pch
end

section
namespace Go.Pch
open Go.RowKit Go.Proofs

theorem agg_of_two {v a b : Value} (h : v.cells.toList = [a, b]) : v = .agg #[a, b] := by
  cases v with
  | agg cs => simp only [Value.cells] at h; rw [← h]
  | _ => simp [Value.cells] at h

theorem fieldsRow : ∃ f0 f1 : Field, Tryz.prog.underlying 44 = some (.struct #[f0, f1]) ∧ f0.offset = 0 ∧ f1.offset = 1 ∧ f0.type = 3 ∧ f1.type = 3 := by
  obtain ⟨f, g, h1, h2, h3⟩ := two_of_map rowFields
  simp only [Prod.mk.injEq] at h2 h3
  have e : Tryz.prog.fieldsOf 44 = #[f, g] := by rw [← Array.toList_inj, h1]
  exact ⟨f, g, by rw [rowStruct, e], h2.2.1, h3.2.1, h2.1, h3.1⟩
theorem opInt : Opens Tryz.prog tInt 3 := Opens.int Tryz.underlying3
theorem opRow : Opens Tryz.prog tRow 44 := by
  obtain ⟨f0, f1, h, o0, o1, t0, t1⟩ := fieldsRow
  exact Opens.row h (by kernel_rfl) o0 o1 (by rw [t0]; kernel_rfl) (by rw [t1]; kernel_rfl) (by rw [t0]; exact Tryz.underlying3) (by rw [t1]; exact Tryz.underlying3)
theorem opRows : Opens Tryz.prog tRow.slice 29 := opRow.slice Tryz.underlying29 (by kernel_rfl)
theorem opLevel : Opens Tryz.prog tRow.slice.slice 47 := opRows.slice Tryz.underlying47 (by kernel_rfl)
theorem opTree : Opens Tryz.prog tRow.slice.slice.slice 37 := opLevel.slice Tryz.underlying37 (by kernel_rfl)

end Go.Pch
end
