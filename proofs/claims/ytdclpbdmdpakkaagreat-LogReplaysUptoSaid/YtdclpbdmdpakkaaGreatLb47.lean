/- The walk of the document's DoOf. An act in a box; contracts with the answer named. The law LogDoes: the walk. (gen_lgy.py) From a row's data to what a value reads as; no program is named here. What the program's types read as. Changes, read from data. What an act reads as, from data. What commits read as. What heads and repos read as. -/
import Derived.Test.YtdclpbdmdpakkaaGreatLb33
import Derived.Test.YtdclpbdmdpakkaaGreatLb44
import Derived.Test.YtdclpbdmdpakkaaGreatLb46
import Derived.Test.YtdclpbdmdpakkaaGreatLb39
import Derived.Test.YtdclpbdmdpakkaaGreatLb2
import Derived.ProofKit
import Derived.OpenShut
import Derived.Deep.Slices
import Derived.ChangeSame
import Derived.Test.YtdclpbdmdpakkaaGreatLb16
import Derived.Test.YtdclpbdmdpakkaaGreatLb17
import Derived.ChangeArms
import Derived.Test.YtdclpbdmdpakkaaGreatLb3
import Derived.Test.YtdclpbdmdpakkaaGreatLb4
section
namespace Go.Pch
open Go.RowKit Go.Proofs
set_option maxRecDepth 100000

set_option maxHeartbeats 1000000 in
theorem refDoOf (v u : Value) (r : Repo) (x : Act) (S S' : Blk) (w : World) (hz : x.2.1.size ≤ maxLen) (h : Rp w S v r) (g : AtAct w S' u x) :
    Calls Tryz.prog 14 #[v, u] w (Ret w (RefRet w.heap.size (doP r x))) := by
  obtain ⟨c, hc⟩ : ∃ c, doP r x = c := ⟨_, rfl⟩
  rw [hc]
  have hR := h
  obtain ⟨vc, vh, rfl, h1, h2⟩ := h
  obtain ⟨ac, cc, hvc, _, _, _⟩ := h1.shape
  obtain ⟨ah, ch, hvh, _, _, _⟩ := h2.shape
  generalize r.1.length = nc at hvc
  generalize r.2.length = nh at hvh
  subst hvc hvh
  obtain ⟨k, a, b, d⟩ := x
  simp only at hz
  obtain ⟨vd, rfl, hd⟩ := g
  obtain ⟨ad, cd, hvd, _, _, _⟩ := hd.shape
  simp only at hvd hd
  generalize d.length = nd at hvd
  subst hvd
  simp only
  have hX := doAt w (.slice ac nc cc) (.slice ah nh ch) k a b (.slice ad nd cd)
  obtain ⟨wB, hwB⟩ : ∃ wB, wB = ((w.alloc (.cells #[.slice ac nc cc, .slice ah nh ch] 25)).alloc (.cells #[.int .i64 k, .string a, .string b, .slice ad nd cd] 36)).alloc (.cells #[.slice none 0 0, .slice none 0 0] 25) := ⟨_, rfl⟩
  rw [← hwB] at hX
  have HWB := keepBack hwB
  clear hwB
  have zB := hX.size
  have hRB := hR.call hX.low
  have hdB := hd.call hX.low
  rw [doP] at hc
  simp only at hc
  by_cases k1 : k = 1
  · subst k1
    rw [if_pos rfl] at hc
    go_enter Tryz.func14, Tryz.ntmps14
    go_wp2_with fail
    rw [← HWB.out]
    refine (refPutTo_of _ _ r a d _ _ wB hRB hdB hc).mono ?_; rintro e w1 ⟨_, rfl, hret, b1⟩
    obtain ⟨y, rfl, hy⟩ := hret
    obtain ⟨v1, v2, rfl, hy1, hy2⟩ := hy
    obtain ⟨a1, c1, hv1, _, _, _⟩ := hy1.shape
    obtain ⟨a2, c2, hv2, _, _, _⟩ := hy2.shape
    generalize c.1.1.length = n1 at hv1
    generalize c.1.2.length = n2 at hv2
    subst hv1 hv2
    obtain ⟨_, _, y2, y3, yf⟩ := hX.on b1
    go_wp2_with fail
    refine bodyPost_ret (repoResults rfl _ _ _ _ _ _ _ rfl rfl (hX.fin b1 _ _).1) rfl ?_
    exact ⟨_, rfl, ⟨_, rfl, hX.rp ⟨_, _, rfl, hy1, hy2⟩⟩, (hX.fin b1 _ _).2⟩
  · rw [if_neg k1] at hc
    by_cases k2 : k = 2
    · subst k2
      rw [if_pos rfl] at hc
      clear k1
      go_enter Tryz.func14, Tryz.ntmps14
      go_wp2_with fail
      rw [← HWB.out]
      refine (refBranchOf_of _ r a b _ wB hz hRB hc).mono ?_; rintro e w1 ⟨_, rfl, hret, b1⟩
      obtain ⟨y, rfl, hy⟩ := hret
      obtain ⟨v1, v2, rfl, hy1, hy2⟩ := hy
      obtain ⟨a1, c1, hv1, _, _, _⟩ := hy1.shape
      obtain ⟨a2, c2, hv2, _, _, _⟩ := hy2.shape
      generalize c.1.1.length = n1 at hv1
      generalize c.1.2.length = n2 at hv2
      subst hv1 hv2
      obtain ⟨_, _, y2, y3, yf⟩ := hX.on b1
      go_wp2_with fail
      refine bodyPost_ret (repoResults rfl _ _ _ _ _ _ _ rfl rfl (hX.fin b1 _ _).1) rfl ?_
      exact ⟨_, rfl, ⟨_, rfl, hX.rp ⟨_, _, rfl, hy1, hy2⟩⟩, (hX.fin b1 _ _).2⟩
    · rw [if_neg k2] at hc
      by_cases k3 : k = 3
      · subst k3
        rw [if_pos rfl] at hc
        clear k1 k2
        obtain ⟨q, hq⟩ : ∃ q, jJoin r a b = q := ⟨_, rfl⟩
        rw [hq] at hc
        subst hc
        go_enter Tryz.func14, Tryz.ntmps14
        go_wp2_with fail
        rw [← HWB.out]
        refine (refJoinOf_of _ r a b _ wB hRB hq).mono ?_; rintro e w1 ⟨_, rfl, ⟨y, z, rfl, hy, hz⟩, b1⟩
        obtain ⟨v1, v2, rfl, hy1, hy2⟩ := hy
        obtain ⟨a1, c1, hv1, _, _, _⟩ := hy1.shape
        obtain ⟨a2, c2, hv2, _, _, _⟩ := hy2.shape
        generalize q.1.1.length = n1 at hv1
        generalize q.1.2.length = n2 at hv2
        subst hv1 hv2
        obtain ⟨az, cz, hvz, _, _, _⟩ := hz.shape
        generalize q.2.1.length = nz at hvz
        subst hvz
        have b2 : Below wB.heap.size wB (w1.alloc (.cells #[.slice a1 n1 c1, .slice a2 n2 c2] 25)) := b1.alloc b1.size _
        have bo := (Below.refl w1.heap.size w1).alloc (Nat.le_refl _) (.cells #[.slice a1 n1 c1, .slice a2 n2 c2] 25)
        obtain ⟨_, _, y2, y3, yf⟩ := hX.on b2
        go_wp2_with fail
        refine bodyPost_ret (repoResults rfl _ _ _ _ _ _ _ rfl rfl (hX.fin b2 _ _).1) rfl ?_
        exact ⟨_, rfl, ⟨_, rfl, hX.rp ⟨_, _, rfl, hy1.call bo, hy2.call bo⟩⟩, (hX.fin b2 _ _).2⟩
      · rw [if_neg k3] at hc
        by_cases k4 : k = 4
        · subst k4
          rw [if_pos rfl] at hc
          clear k1 k2 k3
          go_enter Tryz.func14, Tryz.ntmps14
          go_wp2_with fail
          rw [← HWB.out]
          refine (refDropOf_of _ r a _ wB hRB hc).mono ?_; rintro e w1 ⟨_, rfl, hret, b1⟩
          obtain ⟨y, rfl, hy⟩ := hret
          obtain ⟨v1, v2, rfl, hy1, hy2⟩ := hy
          obtain ⟨a1, c1, hv1, _, _, _⟩ := hy1.shape
          obtain ⟨a2, c2, hv2, _, _, _⟩ := hy2.shape
          generalize c.1.1.length = n1 at hv1
          generalize c.1.2.length = n2 at hv2
          subst hv1 hv2
          obtain ⟨_, _, y2, y3, yf⟩ := hX.on b1
          go_wp2_with fail
          refine bodyPost_ret (repoResults rfl _ _ _ _ _ _ _ rfl rfl (hX.fin b1 _ _).1) rfl ?_
          exact ⟨_, rfl, ⟨_, rfl, hX.rp ⟨_, _, rfl, hy1, hy2⟩⟩, (hX.fin b1 _ _).2⟩
        · rw [if_neg k4] at hc
          subst hc
          go_enter Tryz.func14, Tryz.ntmps14
          obtain ⟨_, _, y2, y3, yf⟩ := hX.on (Below.refl _ _)
          rw [HWB.out] at y2 y3 yf
          go_wp2_with fail
          rw [← HWB.out]
          refine bodyPost_ret (repoResults rfl _ _ _ _ _ _ _ rfl rfl hX.res) rfl ?_
          exact ⟨_, rfl, ⟨_, rfl, noRepo_rp _ _⟩, hX.low⟩

end Go.Pch
end

section
namespace Go.Pch
open Go.RowKit Go.Proofs

/-- An act in a box. -/
structure ActRow (w : World) (g : Nat) (k : Int) (a b : ByteArray) (vd : Value) : Prop where
  row : w.heap[g]? = some (.cells #[.int .i64 k, .string a, .string b, vd] 36)
theorem ActRow.call {w w' : World} {g : Nat} {k : Int} {a b : ByteArray} {vd : Value} (h : ActRow w g k a b vd) (hb : Below w.heap.size w w') : ActRow w' g k a b vd := ⟨(hb.block g (Array.getElem?_eq_some_iff.1 h.row).1).trans h.row⟩
theorem ActRow.cells {w : World} {g : Nat} {k : Int} {a b : ByteArray} {vd : Value} (h : ActRow w g k a b vd) : w.cell? ⟨g, 0, none⟩ = some (.int .i64 k) ∧ w.cell? ⟨g, 1, none⟩ = some (.string a) ∧ w.cell? ⟨g, 2, none⟩ = some (.string b) ∧ w.cell? ⟨g, 3, none⟩ = some vd :=
  ⟨by rw [World.cell?, h.row]; rfl, by rw [World.cell?, h.row]; rfl, by rw [World.cell?, h.row]; rfl, by rw [World.cell?, h.row]; rfl⟩
theorem logDo_of {c : Repo × Int} (v u : Value) (r : Repo) (x : Act) (S S' : Blk) (w : World) (h : Rp w S v r) (g : AtAct w S' u x) (hc : doP r x = c) :
    Calls Tryz.prog 13 #[v, u] w (Ret w (RepoRet w.heap.size c)) := hc ▸ logDo v u r x S S' w h g
theorem refDoOf_of {c : Repo × Int} (v u : Value) (r : Repo) (x : Act) (S S' : Blk) (w : World) (hz : x.2.1.size ≤ maxLen) (h : Rp w S v r) (g : AtAct w S' u x) (hc : doP r x = c) :
    Calls Tryz.prog 14 #[v, u] w (Ret w (RefRet w.heap.size c)) := hc ▸ refDoOf v u r x S S' w hz h g

end Go.Pch
end

section
namespace Go.Pch
open Go.RowKit Go.Proofs
set_option maxRecDepth 100000
set_option linter.unusedVariables false

set_option maxHeartbeats 2000000 in
theorem lawLogDoes (v : Value) (r : Repo) (u : Value) (x : Act) (w : World) (h : Rp w (fun _ => True) v r) (g : AtAct w (fun _ => True) u x) (hz : x.2.1.size ≤ maxLen) :
    Calls Tryz.prog 4 #[v, u] w (Ret w fun x _ => x = .bool true) := by
  have HP := keepBack (⟨_, rfl⟩ : ∃ p, doP r x = p)
  obtain ⟨p, hp⟩ := HP.out
  clear HP
  obtain ⟨k, a, b, d⟩ := x
  obtain ⟨vd, rfl, hd_w⟩ := g
  obtain ⟨ad, cd, hvd, _, _, _⟩ := hd_w.shape
  simp only at hvd hd_w hz
  generalize d.length = nd at hvd
  subst hvd
  simp only
  obtain ⟨vc0, vh0, rfl, hc0_w, hh0_w⟩ := h
  obtain ⟨ac0, cc0, hvc0, _, _, _⟩ := hc0_w.shape
  obtain ⟨ah0, ch0, hvh0, _, _, _⟩ := hh0_w.shape
  obtain ⟨nc0, hnc0⟩ : ∃ n, n = r.1.length := ⟨_, rfl⟩
  obtain ⟨nh0, hnh0⟩ : ∃ n, n = r.2.length := ⟨_, rfl⟩
  rw [← hnc0] at hvc0
  rw [← hnh0] at hvh0
  clear hnc0 hnh0
  subst hvc0 hvh0
  obtain ⟨x0, hwx0⟩ : ∃ x0, x0 = (w.alloc (.cells #[.slice ac0 nc0 cc0, .slice ah0 nh0 ch0] 25)).alloc (.cells #[.int .i64 k, .string a, .string b, .slice ad nd cd] 36) := ⟨_, rfl⟩
  have bl0 : Below w.heap.size w x0 := by rw [hwx0]; exact ((Below.refl _ _).alloc (Nat.le_refl _) _).alloc (by simp) _
  have B0_x0 : BoxRow x0 w.heap.size (.slice ac0 nc0 cc0) (.slice ah0 nh0 ch0) := by rw [hwx0]; exact ⟨(Below.heap_alloc _ _ _ (by simp)).trans (heap_alloc_new _ _)⟩
  have A0_x0 : ActRow x0 (w.heap.size + 1) k a b (.slice ad nd cd) := by rw [hwx0]; have := heap_alloc_new (w.alloc (.cells #[.slice ac0 nc0 cc0, .slice ah0 nh0 ch0] 25)) (.cells #[.int .i64 k, .string a, .string b, .slice ad nd cd] 36); rw [show (w.alloc (.cells #[.slice ac0 nc0 cc0, .slice ah0 nh0 ch0] 25)).heap.size = w.heap.size + 1 by simp] at this; exact ⟨this⟩
  have HW0 := keepBack hwx0
  clear hwx0
  have hc0_x0 := hc0_w.call bl0
  have hh0_x0 := hh0_w.call bl0
  have hd_x0 := hd_w.call bl0
  clear hc0_w hh0_w hd_w
  have b0x0 := bl0
  have zx0 := b0x0.size
  go_enter Tryz.func4, Tryz.ntmps4
  have q00 := B0_x0.cell0
  have q01 := B0_x0.cell1
  obtain ⟨m0, m1, m2, m3⟩ := A0_x0.cells
  rw [HW0.out] at q00 q01 m0 m1 m2 m3
  go_wp2_with fail
  rw [← HW0.out]
  clear q00 q01 m0 m1 m2 m3
  refine (logDo_of _ _ r (k, a, b, d) _ _ x0 ⟨_, _, rfl, hc0_x0, hh0_x0⟩ ⟨_, rfl, hd_x0⟩ hp).mono ?_; rintro e w1 ⟨_, rfl, ⟨y1, rfl, hy1⟩, bw1⟩
  have hc0_w1 := hc0_x0.call bw1
  have hh0_w1 := hh0_x0.call bw1
  have hd_w1 := hd_x0.call bw1
  have B0_w1 := B0_x0.call bw1
  have A0_w1 := A0_x0.call bw1
  clear hc0_x0 hh0_x0 hd_x0 B0_x0 A0_x0
  have b0w1 := b0x0.trans (bw1.mono zx0)
  have zw1 := b0w1.size
  obtain ⟨vc1, vh1, rfl, hc1_w1, hh1_w1⟩ := hy1
  obtain ⟨ac1, cc1, hvc1, _, _, _⟩ := hc1_w1.shape
  obtain ⟨ah1, ch1, hvh1, _, _, _⟩ := hh1_w1.shape
  obtain ⟨nc1, hnc1⟩ : ∃ n, n = p.1.1.length := ⟨_, rfl⟩
  obtain ⟨nh1, hnh1⟩ : ∃ n, n = p.1.2.length := ⟨_, rfl⟩
  rw [← hnc1] at hvc1
  rw [← hnh1] at hvh1
  clear hnc1 hnh1
  subst hvc1 hvh1
  obtain ⟨x1, hwx1⟩ : ∃ x, x = w1.alloc (.cells #[.slice ac1 nc1 cc1, .slice ah1 nh1 ch1] 25) := ⟨_, rfl⟩
  have bl1 : Below w1.heap.size w1 x1 := by rw [hwx1]; exact (Below.refl _ _).alloc (Nat.le_refl _) _
  have B1_x1 : BoxRow x1 w1.heap.size (.slice ac1 nc1 cc1) (.slice ah1 nh1 ch1) := by rw [hwx1]; exact ⟨heap_alloc_new _ _⟩
  have HW1 := keepBack hwx1
  clear hwx1
  have hc0_x1 := hc0_w1.call bl1
  have hh0_x1 := hh0_w1.call bl1
  have hd_x1 := hd_w1.call bl1
  have B0_x1 := B0_w1.call bl1
  have A0_x1 := A0_w1.call bl1
  have hc1_x1 := hc1_w1.call bl1
  have hh1_x1 := hh1_w1.call bl1
  clear hc0_w1 hh0_w1 hd_w1 B0_w1 A0_w1 hc1_w1 hh1_w1
  have b0x1 := b0w1.trans (bl1.mono zw1)
  have zx1 := b0x1.size
  have q00 := B0_x1.cell0
  have q01 := B0_x1.cell1
  obtain ⟨m0, m1, m2, m3⟩ := A0_x1.cells
  rw [HW1.out] at q00 q01 m0 m1 m2 m3
  go_wp2_with fail
  rw [← HW1.out]
  clear q00 q01 m0 m1 m2 m3
  refine (refDoOf_of _ _ r (k, a, b, d) _ _ x1 hz ⟨_, _, rfl, hc0_x1, hh0_x1⟩ ⟨_, rfl, hd_x1⟩ hp).mono ?_; rintro e w2 ⟨_, rfl, ⟨y2, rfl, hy2⟩, bw2⟩
  have hc0_w2 := hc0_x1.call bw2
  have hh0_w2 := hh0_x1.call bw2
  have hd_w2 := hd_x1.call bw2
  have B0_w2 := B0_x1.call bw2
  have A0_w2 := A0_x1.call bw2
  have hc1_w2 := hc1_x1.call bw2
  have hh1_w2 := hh1_x1.call bw2
  have B1_w2 := B1_x1.call bw2
  clear hc0_x1 hh0_x1 hd_x1 B0_x1 A0_x1 hc1_x1 hh1_x1 B1_x1
  have b0w2 := b0x1.trans (bw2.mono zx1)
  have zw2 := b0w2.size
  obtain ⟨vc2, vh2, rfl, hc2_w2, hh2_w2⟩ := hy2
  obtain ⟨ac2, cc2, hvc2, _, _, _⟩ := hc2_w2.shape
  obtain ⟨ah2, ch2, hvh2, _, _, _⟩ := hh2_w2.shape
  obtain ⟨nc2, hnc2⟩ : ∃ n, n = p.1.1.length := ⟨_, rfl⟩
  obtain ⟨nh2, hnh2⟩ : ∃ n, n = p.1.2.length := ⟨_, rfl⟩
  rw [← hnc2] at hvc2
  rw [← hnh2] at hvh2
  clear hnc2 hnh2
  subst hvc2 hvh2
  obtain ⟨x2, hwx2⟩ : ∃ x, x = w2.alloc (.cells #[.slice ac2 nc2 cc2, .slice ah2 nh2 ch2] 25) := ⟨_, rfl⟩
  have bl2 : Below w2.heap.size w2 x2 := by rw [hwx2]; exact (Below.refl _ _).alloc (Nat.le_refl _) _
  have B2_x2 : BoxRow x2 w2.heap.size (.slice ac2 nc2 cc2) (.slice ah2 nh2 ch2) := by rw [hwx2]; exact ⟨heap_alloc_new _ _⟩
  have HW2 := keepBack hwx2
  clear hwx2
  have hc0_x2 := hc0_w2.call bl2
  have hh0_x2 := hh0_w2.call bl2
  have hd_x2 := hd_w2.call bl2
  have B0_x2 := B0_w2.call bl2
  have A0_x2 := A0_w2.call bl2
  have hc1_x2 := hc1_w2.call bl2
  have hh1_x2 := hh1_w2.call bl2
  have B1_x2 := B1_w2.call bl2
  have hc2_x2 := hc2_w2.call bl2
  have hh2_x2 := hh2_w2.call bl2
  clear hc0_w2 hh0_w2 hd_w2 B0_w2 A0_w2 hc1_w2 hh1_w2 B1_w2 hc2_w2 hh2_w2
  have b0x2 := b0w2.trans (bl2.mono zw2)
  have zx2 := b0x2.size
  go_wp2_with fail
  rw [← HW2.out]
  refine (logBegun _).mono ?_; rintro e w3 ⟨_, rfl, rfl, bw3⟩
  have hc0_w3 := hc0_x2.call bw3
  have hh0_w3 := hh0_x2.call bw3
  have hd_w3 := hd_x2.call bw3
  have B0_w3 := B0_x2.call bw3
  have A0_w3 := A0_x2.call bw3
  have hc1_w3 := hc1_x2.call bw3
  have hh1_w3 := hh1_x2.call bw3
  have B1_w3 := B1_x2.call bw3
  have hc2_w3 := hc2_x2.call bw3
  have hh2_w3 := hh2_x2.call bw3
  have B2_w3 := B2_x2.call bw3
  clear hc0_x2 hh0_x2 hd_x2 B0_x2 A0_x2 hc1_x2 hh1_x2 B1_x2 hc2_x2 hh2_x2 B2_x2
  have b0w3 := b0x2.trans (bw3.mono zx2)
  have zw3 := b0w3.size
  have q10 := B1_w3.cell0
  have q11 := B1_w3.cell1
  have q20 := B2_w3.cell0
  have q21 := B2_w3.cell1
  go_wp2_with fail
  clear q10 q11 q20 q21
  refine (refSameRepos _ _ p.1 p.1 _ _ w3 ⟨_, _, rfl, hc1_w3, hh1_w3⟩ ⟨_, _, rfl, hc2_w3, hh2_w3⟩).mono ?_; rintro e w4 ⟨_, rfl, rfl, bw4⟩
  rw [decide_eq_true rfl, decide_eq_true rfl]
  have hc0_w4 := hc0_w3.call bw4
  have hh0_w4 := hh0_w3.call bw4
  have hd_w4 := hd_w3.call bw4
  have B0_w4 := B0_w3.call bw4
  have A0_w4 := A0_w3.call bw4
  have hc1_w4 := hc1_w3.call bw4
  have hh1_w4 := hh1_w3.call bw4
  have B1_w4 := B1_w3.call bw4
  have hc2_w4 := hc2_w3.call bw4
  have hh2_w4 := hh2_w3.call bw4
  have B2_w4 := B2_w3.call bw4
  clear hc0_w3 hh0_w3 hd_w3 B0_w3 A0_w3 hc1_w3 hh1_w3 B1_w3 hc2_w3 hh2_w3 B2_w3
  have b0w4 := b0w3.trans (bw4.mono zw3)
  have zw4 := b0w4.size
  go_wp2
  go_ret
  exact ⟨_, rfl, rfl, b0w4⟩

end Go.Pch
end

section
namespace Go.Pch
open Go.RowKit Go.ChangeShapes Go.WideShapes

/-- Whatever reads as data of type t reads as E says. -/
def Opens (P : Program) {α : Type} (E : Ty α) (t : TypeId) : Prop :=
  ∀ (H : Type) (enc : TypeId × Value → H) (w : World) (base : Nat) (spare : Nat → Bool) (held : Bool) (fuel : Nat) (cs : List Value) (x : DataW H × List MemPlace),
    DataW.trod enc P w base spare held fuel t cs = some x → ∃ a, E.rd w (fun _ => True) cs a

theorem i64ok_of_wf {n : Int} (h : (Lit.int .i64 n).wf = true) : i64ok n := by
  simp only [Lit.wf, IntKind.min, IntKind.max, IntKind.signed, IntKind.bits, Bool.and_eq_true, decide_eq_true_eq, if_true] at h
  unfold i64ok
  omega

theorem Opens.int {P : Program} {t : TypeId} (ht : P.underlying t = some (.int .i64)) : Opens P tInt t := by
  intro H enc w base spare held fuel cs x h
  obtain ⟨n, rfl, _, hw⟩ := DataW.trod_int ht h
  exact ⟨n, rfl, i64ok_of_wf hw⟩

theorem Opens.row {P : Program} {t : TypeId} {f0 f1 : Field} (ht : P.underlying t = some (.struct #[f0, f1])) (hc : P.cellsOf t = 2) (o0 : f0.offset = 0) (o1 : f1.offset = 1) (c0 : P.cellsOf f0.type = 1) (c1 : P.cellsOf f1.type = 1)
    (t0 : P.underlying f0.type = some (.int .i64)) (t1 : P.underlying f1.type = some (.int .i64)) : Opens P tRow t := by
  intro H enc w base spare held fuel cs x h
  obtain ⟨y0, y1, n, _, hl, h0, h1⟩ := trod_struct2 ht h
  rw [hc] at hl
  match cs, hl with
  | [a, b], _ =>
    simp only [o0, o1, c0, c1, List.drop_zero, List.take_succ_cons, List.take_zero, List.drop_succ_cons] at h0 h1
    obtain ⟨p, e0, _, w0⟩ := DataW.trod_int t0 h0
    obtain ⟨q, e1, _, w1⟩ := DataW.trod_int t1 h1
    simp at e0 e1
    subst e0 e1
    exact ⟨(p, q), rfl, i64ok_of_wf w0, i64ok_of_wf w1⟩

theorem Opens.slice {P : Program} {α : Type} {E : Ty α} {t e : TypeId} (hE : Opens P E e) (ht : P.underlying t = some (.slice e)) (hc : P.cellsOf e = E.size) : Opens P E.slice t := by
  intro H enc w base spare held fuel cs x h
  rcases Deep.open_slice ht h with ⟨rfl, _⟩ | ⟨a, len, cap, m, n, D, Pl, rfl, hb, hl, hm, hmm, rfl, hx⟩
  · exact ⟨[], Sl.nil E w _⟩
  · have hlm : len ≤ m := by rw [hmm]; split <;> omega
    have each : ∀ i, i < len → ∃ q : List Value × α, E.rd w (fun _ => True) q.1 q.2 ∧ ∀ j u, q.1[j]? = some u → w.cell? (a.add (i * E.size + j)) = some u := by
      intro i hi
      obtain ⟨cs', h1, h2⟩ := hx i (by omega)
      rw [hc] at h1
      obtain ⟨_, hlen, hcell⟩ := World.cells?_some h1
      obtain ⟨b, hrd⟩ := hE H enc w base spare held n cs' _ h2
      refine ⟨(cs', b), hrd, fun j u hj => ?_⟩
      obtain ⟨hjl, rfl⟩ := List.getElem?_eq_some_iff.1 hj
      have hjl' : j < cs'.length := hjl
      have := hcell j (by omega)
      rw [Deep.add_add] at this
      rw [this]
      simp [hjl]
    by_cases h0 : len = 0
    · subst h0
      exact ⟨[], some a, 0, cap, rfl, rfl, Nat.zero_le _, hm, by simp, by simp⟩
    · obtain ⟨q0, hr0, hc0⟩ := each 0 (by omega)
      have hne : ∃ u, q0.1[0]? = some u := by
        have := E.len hr0; have := E.pos
        exact ⟨q0.1[0], List.getElem?_eq_getElem (by omega)⟩
      obtain ⟨u0, hu0⟩ := hne
      have hcell0 := hc0 0 u0 hu0
      obtain ⟨b, o, spot⟩ := a
      have hspot : spot = none := by simpa [Addr.add] using World.cell?_spot hcell0
      subst hspot
      have each' : ∀ i (x : Unit), (List.replicate len ())[i]? = some x → ∃ q : List Value × α, E.rd w (fun _ => True) q.1 q.2 ∧ ∀ j u, q.1[j]? = some u → w.cell? ⟨b, o + i * E.size + j, none⟩ = some u := by
        intro i x hi
        have hlt : i < len := by simpa using (List.getElem?_eq_some_iff.1 hi).1
        obtain ⟨q, h1, h2⟩ := each i hlt
        exact ⟨q, h1, fun j u hj => by have := h2 j u hj; rwa [Addr.add_lit, ← Nat.add_assoc] at this⟩
      obtain ⟨qs, hql, hq⟩ := exists_list (List.replicate len ()) each'
      rw [List.length_replicate] at hql
      refine ⟨qs.map (·.2), some ⟨b, o, none⟩, len, cap, rfl, by simp [hql], hl, hm, by simp, fun i x hi => ⟨b, o, rfl, trivial, ?_⟩⟩
      rw [List.getElem?_map] at hi
      obtain ⟨q, hqi, rfl⟩ := Option.map_eq_some_iff.1 hi
      have hlt : i < len := by have := (List.getElem?_eq_some_iff.1 hqi).1; omega
      have := hq i q () hqi (by simp [hlt])
      exact ⟨q.1, this.1, this.2⟩

end Go.Pch
end

section
namespace Go.Pch
open Go.RowKit Go.Proofs

theorem agg_of_two {v a b : Value} (h : v.cells.toList = [a, b]) : v = .agg #[a, b] := by
  cases v with
  | agg cs => simp only [Value.cells] at h; rw [← h]
  | _ => simp [Value.cells] at h

theorem fieldsRow : ∃ f0 f1 : Field, Tryz.prog.underlying 115 = some (.struct #[f0, f1]) ∧ f0.offset = 0 ∧ f1.offset = 1 ∧ f0.type = 3 ∧ f1.type = 3 := by
  obtain ⟨f, g, h1, h2, h3⟩ := two_of_map rowFields
  simp only [Prod.mk.injEq] at h2 h3
  have e : Tryz.prog.fieldsOf 115 = #[f, g] := by rw [← Array.toList_inj, h1]
  exact ⟨f, g, by rw [rowStruct, e], h2.2.1, h3.2.1, h2.1, h3.1⟩
theorem opInt : Opens Tryz.prog tInt 3 := Opens.int Tryz.underlying3
theorem opRow : Opens Tryz.prog tRow 115 := by
  obtain ⟨f0, f1, h, o0, o1, t0, t1⟩ := fieldsRow
  exact Opens.row h (by kernel_rfl) o0 o1 (by rw [t0]; kernel_rfl) (by rw [t1]; kernel_rfl) (by rw [t0]; exact Tryz.underlying3) (by rw [t1]; exact Tryz.underlying3)
theorem opRows : Opens Tryz.prog tRow.slice 64 := opRow.slice Tryz.underlying64 (by kernel_rfl)
theorem opLevel : Opens Tryz.prog tRow.slice.slice 109 := opRows.slice Tryz.underlying109 (by kernel_rfl)

end Go.Pch
end

section
namespace Go.Pch
open Go.RowKit Go.Proofs Go.ChangeShapes Go.WideShapes

theorem Opens.triple {P : Program} {t : TypeId} {f0 f1 f2 : Field} (ht : P.underlying t = some (.struct #[f0, f1, f2])) (hc : P.cellsOf t = 3) (o0 : f0.offset = 0) (o1 : f1.offset = 1) (o2 : f2.offset = 2) (c0 : P.cellsOf f0.type = 1) (c1 : P.cellsOf f1.type = 1) (c2 : P.cellsOf f2.type = 1)
    (t0 : P.underlying f0.type = some (.int .i64)) (t1 : P.underlying f1.type = some (.int .i64)) (t2 : P.underlying f2.type = some (.int .i64)) : Opens P tChange t := by
  intro H enc w base spare held fuel cs x h
  obtain ⟨xs, n, _, rfl, hl, hlen, hf⟩ := DataW.trod_struct ht h
  match xs, hlen with
  | [y0, y1, y2], _ =>
    have h0 := hf 0 f0 rfl
    have h1 := hf 1 f1 rfl
    have h2 := hf 2 f2 rfl
    rw [hc] at hl
    match cs, hl with
    | [a, b, c], _ =>
      simp only [o0, o1, o2, c0, c1, c2, List.drop_zero, List.take_succ_cons, List.take_zero, List.drop_succ_cons] at h0 h1 h2
      obtain ⟨p, e0, _, w0⟩ := DataW.trod_int t0 h0
      obtain ⟨q, e1, _, w1⟩ := DataW.trod_int t1 h1
      obtain ⟨r, e2, _, w2⟩ := DataW.trod_int t2 h2
      simp at e0 e1 e2
      subst e0 e1 e2
      exact ⟨(p, q, r), rfl, i64ok_of_wf w0, i64ok_of_wf w1, i64ok_of_wf w2⟩
theorem fieldsChg : ∃ f0 f1 f2 : Field, Tryz.prog.underlying 81 = some (.struct #[f0, f1, f2]) ∧ f0.offset = 0 ∧ f1.offset = 1 ∧ f2.offset = 2 ∧ f0.type = 3 ∧ f1.type = 3 ∧ f2.type = 3 := by
  obtain ⟨f, g, k, h1, h2, h3, h4⟩ := three_of_map chgFields
  simp only [Prod.mk.injEq] at h2 h3 h4
  have e : Tryz.prog.fieldsOf 81 = #[f, g, k] := by rw [← Array.toList_inj, h1]
  exact ⟨f, g, k, by rw [chgStruct, e], h2.2.1, h3.2.1, h4.2.1, h2.1, h3.1, h4.1⟩
theorem opChange : Opens Tryz.prog tChange 81 := by
  obtain ⟨f0, f1, f2, h, o0, o1, o2, t0, t1, t2⟩ := fieldsChg
  exact Opens.triple h (by kernel_rfl) o0 o1 o2 (by rw [t0]; kernel_rfl) (by rw [t1]; kernel_rfl) (by rw [t2]; kernel_rfl) (by rw [t0]; exact Tryz.underlying3) (by rw [t1]; exact Tryz.underlying3) (by rw [t2]; exact Tryz.underlying3)
theorem opChanges : Opens Tryz.prog tChange.slice 34 := opChange.slice Tryz.underlying34 (by kernel_rfl)

end Go.Pch
end

section
namespace Go.Pch
open Go.RowKit Go.Proofs Go.ChangeShapes Go.WideShapes

theorem four_of_map {α β : Type} {f : α → β} {l : List α} {x y z u : β} (h : l.map f = [x, y, z, u]) : ∃ a b c d, l = [a, b, c, d] ∧ f a = x ∧ f b = y ∧ f c = z ∧ f d = u := by
  match l, h with
  | [a, b, c, d], h => simp at h; exact ⟨a, b, c, d, rfl, h.1, h.2.1, h.2.2.1, h.2.2.2⟩
theorem agg_of_four {v a b c d : Value} (h : v.cells.toList = [a, b, c, d]) : v = .agg #[a, b, c, d] := by
  cases v with
  | agg cs => simp only [Value.cells] at h; rw [← h]
  | _ => simp [Value.cells] at h
theorem actFields : (Tryz.prog.fieldsOf 36).toList.map (fun f => (f.type, f.offset, f.name)) = [(3, 0, "Kind"), (9, 1, "One"), (9, 2, "Two"), (34, 3, "Changes")] := by kernel_rfl
theorem actStruct : Tryz.prog.underlying 36 = some (.struct (Tryz.prog.fieldsOf 36)) := by kernel_rfl
/-- An act, in cells. -/
def ActCells (w : World) (S : Blk) (cs : List Value) (x : Act) : Prop := ∃ vd, cs = [.int .i64 x.1, .string x.2.1, .string x.2.2.1, vd] ∧ i64ok x.1 ∧ x.2.1.size ≤ maxLen ∧ x.2.2.1.size ≤ maxLen ∧ Sl tChange w S vd x.2.2.2
theorem openFour {P : Program} {t : TypeId} {f0 f1 f2 f3 : Field} (ht : P.underlying t = some (.struct #[f0, f1, f2, f3])) (hc : P.cellsOf t = 4) (o0 : f0.offset = 0) (o1 : f1.offset = 1) (o2 : f2.offset = 2) (o3 : f3.offset = 3) (c0 : P.cellsOf f0.type = 1) (c1 : P.cellsOf f1.type = 1) (c2 : P.cellsOf f2.type = 1) (c3 : P.cellsOf f3.type = 1)
    (t0 : P.underlying f0.type = some (.int .i64)) (t1 : P.underlying f1.type = some .string) (t2 : P.underlying f2.type = some .string) (t3 : Opens P tChange.slice f3.type)
    (H : Type) (enc : TypeId × Value → H) (w : World) (base : Nat) (spare : Nat → Bool) (held : Bool) (fuel : Nat) (cs : List Value) (x : DataW H × List MemPlace)
    (h : DataW.trod enc P w base spare held fuel t cs = some x) : ∃ a, ActCells w (fun _ => True) cs a := by
  obtain ⟨xs, n, _, rfl, hl, hlen, hf⟩ := DataW.trod_struct ht h
  match xs, hlen with
  | [y0, y1, y2, y3], _ =>
    have g0 := hf 0 f0 rfl
    have g1 := hf 1 f1 rfl
    have g2 := hf 2 f2 rfl
    have g3 := hf 3 f3 rfl
    rw [hc] at hl
    match cs, hl with
    | [a, b, c, d], _ =>
      simp only [o0, o1, o2, o3, c0, c1, c2, c3, List.drop_zero, List.take_succ_cons, List.take_zero, List.drop_succ_cons] at g0 g1 g2 g3
      obtain ⟨k, q0, _, w0⟩ := DataW.trod_int t0 g0
      obtain ⟨s, q1, _, w1⟩ := DataW.trod_string t1 g1
      obtain ⟨u, q2, _, w2⟩ := DataW.trod_string t2 g2
      obtain ⟨l, hd⟩ := t3 H enc w base spare held _ _ _ g3
      simp at q0 q1 q2
      subst q0 q1 q2
      obtain ⟨a3, n3, c3, hv, r3⟩ := hd
      simp at hv
      subst hv
      exact ⟨(k, s, u, l), _, rfl, i64ok_of_wf w0, w1, w2, a3, n3, c3, rfl, r3⟩
theorem opAct (H : Type) (enc : TypeId × Value → H) (w : World) (base : Nat) (spare : Nat → Bool) (held : Bool) (fuel : Nat) (cs : List Value) (x : DataW H × List MemPlace)
    (h : DataW.trod enc Tryz.prog w base spare held fuel 36 cs = some x) : ∃ a, ActCells w (fun _ => True) cs a := by
  obtain ⟨f0, f1, f2, f3, e0, h0, h1, h2, h3⟩ := four_of_map actFields
  simp only [Prod.mk.injEq] at h0 h1 h2 h3
  have e : Tryz.prog.fieldsOf 36 = #[f0, f1, f2, f3] := by rw [← Array.toList_inj, e0]
  exact openFour (by rw [actStruct, e]) (by kernel_rfl) h0.2.1 h1.2.1 h2.2.1 h3.2.1 (by rw [h0.1]; kernel_rfl) (by rw [h1.1]; kernel_rfl) (by rw [h2.1]; kernel_rfl) (by rw [h3.1]; kernel_rfl)
    (by rw [h0.1]; exact Tryz.underlying3) (by rw [h1.1]; exact Tryz.underlying9) (by rw [h2.1]; exact Tryz.underlying9) (by rw [h3.1]; exact opChanges) H enc w base spare held fuel cs x h
theorem act_of_open {w : World} {S : Blk} {v : Value} {x : Act} (h : ActCells w S v.cells.toList x) : AtAct w S v x := by
  obtain ⟨vd, hv, _, _, _, hd⟩ := h
  exact ⟨vd, agg_of_four hv, hd⟩

end Go.Pch
end

section
namespace Go.Pch
open Go.RowKit Go.Proofs Go.ChangeShapes Go.WideShapes

theorem Opens.pair {P : Program} {α β : Type} {E : Ty α} {F : Ty β} {t : TypeId} {f0 f1 : Field} (ht : P.underlying t = some (.struct #[f0, f1])) (hc : P.cellsOf t = E.size + F.size) (o0 : f0.offset = 0) (o1 : f1.offset = E.size)
    (c0 : P.cellsOf f0.type = E.size) (c1 : P.cellsOf f1.type = F.size) (h0 : Opens P E f0.type) (h1 : Opens P F f1.type) : Opens P (E.pair F) t := by
  intro H enc w base spare held fuel cs x h
  obtain ⟨y0, y1, n, _, hl, g0, g1⟩ := trod_struct2 ht h
  rw [o0, c0, List.drop_zero] at g0
  rw [o1, c1] at g1
  obtain ⟨a, ha⟩ := h0 H enc w base spare held _ _ _ g0
  obtain ⟨b, hb⟩ := h1 H enc w base spare held _ _ _ g1
  refine ⟨(a, b), cs.take E.size, (cs.drop E.size).take F.size, ?_, ha, hb⟩
  rw [List.take_of_length_le (l := cs.drop E.size) (by rw [List.length_drop]; omega), List.take_append_drop]

theorem comFields : (Tryz.prog.fieldsOf 67).toList.map (fun f => (f.type, f.offset, f.name)) = [(64, 0, "Rows"), (26, 1, "Parents")] := by kernel_rfl
theorem comStruct : Tryz.prog.underlying 67 = some (.struct (Tryz.prog.fieldsOf 67)) := by kernel_rfl
theorem opInts : Opens Tryz.prog tInt.slice 26 := opInt.slice Tryz.underlying26 (by kernel_rfl)
theorem opCommit : Opens Tryz.prog tCommit 67 := by
  obtain ⟨f, g, h1, h2, h3⟩ := two_of_map comFields
  simp only [Prod.mk.injEq] at h2 h3
  have e : Tryz.prog.fieldsOf 67 = #[f, g] := by rw [← Array.toList_inj, h1]
  exact Opens.pair (by rw [comStruct, e]) (by kernel_rfl) h2.2.1 h3.2.1 (by rw [h2.1]; kernel_rfl) (by rw [h3.1]; kernel_rfl) (by rw [h2.1]; exact opRows) (by rw [h3.1]; exact opInts)
theorem opCommits : Opens Tryz.prog tCommit.slice 22 := opCommit.slice Tryz.underlying22 (by kernel_rfl)

end Go.Pch
end

section
namespace Go.Pch
open Go.RowKit Go.Proofs Go.ChangeShapes Go.WideShapes

theorem headFields : (Tryz.prog.fieldsOf 59).toList.map (fun f => (f.type, f.offset, f.name)) = [(9, 0, "Name"), (3, 1, "At")] := by kernel_rfl
theorem headStruct : Tryz.prog.underlying 59 = some (.struct (Tryz.prog.fieldsOf 59)) := by kernel_rfl
theorem opHead : Opens Tryz.prog tHead 59 := by
  obtain ⟨f, g, h1, h2, h3⟩ := two_of_map headFields
  simp only [Prod.mk.injEq] at h2 h3
  have e : Tryz.prog.fieldsOf 59 = #[f, g] := by rw [← Array.toList_inj, h1]
  have hs : Tryz.prog.underlying 59 = some (.struct #[f, g]) := by rw [headStruct, e]
  have hc : Tryz.prog.cellsOf 59 = 2 := by kernel_rfl
  intro H enc w base spare held fuel cs x h
  obtain ⟨y0, y1, n, _, hl, g0, g1⟩ := trod_struct2 hs h
  rw [hc] at hl
  have c0 : Tryz.prog.cellsOf 9 = 1 := by kernel_rfl
  have c1 : Tryz.prog.cellsOf 3 = 1 := by kernel_rfl
  rw [h2.1, h2.2.1, c0] at g0
  rw [h3.1, h3.2.1, c1] at g1
  match cs, hl with
  | [a, b], _ =>
    simp only [List.drop_zero, List.take_succ_cons, List.take_zero, List.drop_succ_cons] at g0 g1
    obtain ⟨s, e0, _, w0⟩ := DataW.trod_string Tryz.underlying9 g0
    obtain ⟨q, e1, _, w1⟩ := DataW.trod_int Tryz.underlying3 g1
    simp at e0 e1
    subst e0 e1
    exact ⟨(s, q), rfl, i64ok_of_wf w1, w0⟩
theorem opHeads : Opens Tryz.prog tHead.slice 23 := opHead.slice Tryz.underlying23 (by kernel_rfl)
theorem repoFields : (Tryz.prog.fieldsOf 25).toList.map (fun f => (f.type, f.offset, f.name)) = [(22, 0, "Commits"), (23, 1, "Heads")] := by kernel_rfl
theorem repoStruct : Tryz.prog.underlying 25 = some (.struct (Tryz.prog.fieldsOf 25)) := by kernel_rfl
theorem opRepo : Opens Tryz.prog (tCommit.slice.pair tHead.slice) 25 := by
  obtain ⟨f, g, h1, h2, h3⟩ := two_of_map repoFields
  simp only [Prod.mk.injEq] at h2 h3
  have e : Tryz.prog.fieldsOf 25 = #[f, g] := by rw [← Array.toList_inj, h1]
  exact Opens.pair (by rw [repoStruct, e]) (by kernel_rfl) h2.2.1 h3.2.1 (by rw [h2.1]; kernel_rfl) (by rw [h3.1]; kernel_rfl) (by rw [h2.1]; exact opCommits) (by rw [h3.1]; exact opHeads)
/-- A reading of a repo is a repo. -/
theorem rp_of_open {w : World} {S : Blk} {v : Value} {r : Repo} (h : (tCommit.slice.pair tHead.slice).rd w S v.cells.toList r) : Rp w S v r := by
  obtain ⟨x, y, hv, ⟨a1, n1, c1, rfl, g1⟩, ⟨a2, n2, c2, rfl, g2⟩⟩ := h
  exact ⟨_, _, agg_of_two hv, ⟨a1, n1, c1, rfl, g1⟩, ⟨a2, n2, c2, rfl, g2⟩⟩

end Go.Pch
end
