/- The law WorkRight: the walk. (gen_wkq.py) -/
import Derived.Test.YtdclpbdmdpakkaaWa44
section
namespace Go.Pch
open Go.RowKit Go.Proofs
set_option maxRecDepth 100000
set_option linter.unusedVariables false

/-- An act in a box. -/
structure ActRow (w : World) (g : Nat) (k : Int) (a b : ByteArray) (vd : Value) : Prop where
  row : w.heap[g]? = some (.cells #[.int .i64 k, .string a, .string b, vd] 46)
theorem ActRow.call {w w' : World} {g : Nat} {k : Int} {a b : ByteArray} {vd : Value} (h : ActRow w g k a b vd) (hb : Below w.heap.size w w') : ActRow w' g k a b vd := ⟨(hb.block g (Array.getElem?_eq_some_iff.1 h.row).1).trans h.row⟩
theorem ActRow.cell1 {w : World} {g : Nat} {k : Int} {a b : ByteArray} {vd : Value} (h : ActRow w g k a b vd) : w.cell? ⟨g, 1, none⟩ = some (.string a) := by rw [World.cell?, h.row]; rfl
theorem logDo_of {c : Repo × Int} (v u : Value) (r : Repo) (x : Act) (S S' : Blk) (w : World) (h : Rp w S v r) (g : AtAct w S' u x) (hc : doP r x = c) :
    Calls Try.prog 20 #[v, u] w (Ret w (RepoRet w.heap.size c)) := hc ▸ logDo v u r x S S' w h g

set_option maxHeartbeats 2000000 in
theorem lawWorkRight (v : Value) (r : Repo) (u : Value) (x : Act) (n : ByteArray) (w : World) (h : Rp w (fun _ => True) v r) (g : AtAct w (fun _ => True) u x) :
    Calls Try.prog 6 #[v, u, .string n] w (Ret w fun x _ => x = .bool true) := by
  obtain ⟨p, hp⟩ : ∃ p, doP r x = p := ⟨_, rfl⟩
  obtain ⟨R1, hR1⟩ : ∃ R1, R1 = p.1 := ⟨_, rfl⟩
  obtain ⟨E1, hE1⟩ : ∃ E1, E1 = p.2 := ⟨_, rfl⟩
  obtain rfl : p = (R1, E1) := by rw [hR1, hE1]
  clear hR1 hE1
  obtain ⟨vc0, vh0, rfl, hc0_w, hh0_w⟩ := h
  obtain ⟨ac0, cc0, hvc0, _, _, _⟩ := hc0_w.shape
  obtain ⟨ah0, ch0, hvh0, _, _, _⟩ := hh0_w.shape
  obtain ⟨nc0, hnc0⟩ : ∃ n, n = r.1.length := ⟨_, rfl⟩
  obtain ⟨nh0, hnh0⟩ : ∃ n, n = r.2.length := ⟨_, rfl⟩
  rw [← hnc0] at hvc0
  rw [← hnh0] at hvh0
  have HN0 := keepBack hnc0
  clear hnc0 hnh0
  subst hvc0 hvh0
  obtain ⟨k, a, b, d⟩ := x
  obtain ⟨vd, rfl, hd⟩ := g
  obtain ⟨ad, cd, hvd, _, _, _⟩ := hd.shape
  simp only at hvd hd
  generalize d.length = nd at hvd
  subst hvd
  simp only
  have HRT : E1 = 0 → Right r R1 a := fun e => do_right (x := (k, a, b, d)) (by rw [hp, e])
  obtain ⟨x0, hwx0⟩ : ∃ x0, x0 = (w.alloc (.cells #[.slice ac0 nc0 cc0, .slice ah0 nh0 ch0] 25)).alloc (.cells #[.int .i64 k, .string a, .string b, .slice ad nd cd] 46) := ⟨_, rfl⟩
  have bl0 : Below w.heap.size w x0 := by rw [hwx0]; exact ((Below.refl _ _).alloc (Nat.le_refl _) _).alloc (by simp) _
  have B0_x0 : BoxRow x0 w.heap.size (.slice ac0 nc0 cc0) (.slice ah0 nh0 ch0) := by rw [hwx0]; exact ⟨(Below.heap_alloc _ _ _ (by simp)).trans (heap_alloc_new _ _)⟩
  have A0_x0 : ActRow x0 (w.heap.size + 1) k a b (.slice ad nd cd) := by rw [hwx0]; have := heap_alloc_new (w.alloc (.cells #[.slice ac0 nc0 cc0, .slice ah0 nh0 ch0] 25)) (.cells #[.int .i64 k, .string a, .string b, .slice ad nd cd] 46); rw [show (w.alloc (.cells #[.slice ac0 nc0 cc0, .slice ah0 nh0 ch0] 25)).heap.size = w.heap.size + 1 by simp] at this; exact ⟨this⟩
  have HW0 := keepBack hwx0
  clear hwx0
  have hd_w := hd
  have hc0_x0 := hc0_w.call bl0
  have hh0_x0 := hh0_w.call bl0
  have hd_x0 := hd_w.call bl0
  clear hc0_w hh0_w hd_w
  have b0x0 := bl0
  have zx0 := b0x0.size
  by_cases hE : E1 = 0
  · subst hE
    obtain ⟨he, heR, hgrow, hoth⟩ := HRT rfl
    clear HRT
    have hlen : r.1.length ≤ R1.1.length ∧ R1.1.length ≤ r.1.length + 1 := by rcases hgrow with hg | ⟨c, hg⟩ <;> rw [hg] <;> simp
    have htk : R1.1.take r.1.length = r.1 := by rcases hgrow with hg | ⟨c, hg⟩ <;> rw [hg] <;> simp
    have hc14 := (dag_ok (repo_ok he).1).1
    go_enter Try.func6, Try.ntmps6
    go_wp2_with fail
    rw [← HW0.out]
    refine (logDo_of _ _ r (k, a, b, d) _ _ x0 ⟨_, _, rfl, hc0_x0, hh0_x0⟩ ⟨_, rfl, hd_x0⟩ hp).mono ?_; rintro e w1 ⟨_, rfl, ⟨y1, rfl, hy1⟩, bw1⟩
    have hc0_w1 := hc0_x0.call bw1
    have hh0_w1 := hh0_x0.call bw1
    have hd_w1 := hd_x0.call bw1
    have B0_w1 := B0_x0.call bw1
    have A0_w1 := A0_x0.call bw1
    clear hc0_x0 hh0_x0 hd_x0 B0_x0 A0_x0
    have b0w1 := b0x0.trans (bw1.mono zx0)
    have zw1 := b0w1.size
    obtain ⟨vc1, vh1, rfl, hc1_w1, hh1_w1⟩ := hy1
    obtain ⟨ac1, cc1, hvc1, _, _, _⟩ := hc1_w1.shape
    obtain ⟨ah1, ch1, hvh1, _, _, _⟩ := hh1_w1.shape
    obtain ⟨nc1, hnc1⟩ : ∃ n, n = R1.1.length := ⟨_, rfl⟩
    obtain ⟨nh1, hnh1⟩ : ∃ n, n = R1.2.length := ⟨_, rfl⟩
    rw [← hnc1] at hvc1
    rw [← hnh1] at hvh1
    have HN1 := keepBack hnc1
    clear hnc1 hnh1
    subst hvc1 hvh1
    obtain ⟨x1, hwx1⟩ : ∃ x, x = w1.alloc (.cells #[.slice ac1 nc1 cc1, .slice ah1 nh1 ch1] 25) := ⟨_, rfl⟩
    have bl1 : Below w1.heap.size w1 x1 := by rw [hwx1]; exact (Below.refl _ _).alloc (Nat.le_refl _) _
    have B1_x1 : BoxRow x1 w1.heap.size (.slice ac1 nc1 cc1) (.slice ah1 nh1 ch1) := by rw [hwx1]; exact ⟨heap_alloc_new _ _⟩
    have HW1 := keepBack hwx1
    clear hwx1
    have hc0_x1 := hc0_w1.call bl1
    have hh0_x1 := hh0_w1.call bl1
    have hd_x1 := hd_w1.call bl1
    have B0_x1 := B0_w1.call bl1
    have A0_x1 := A0_w1.call bl1
    have hc1_x1 := hc1_w1.call bl1
    have hh1_x1 := hh1_w1.call bl1
    clear hc0_w1 hh0_w1 hd_w1 B0_w1 A0_w1 hc1_w1 hh1_w1
    have b0x1 := b0w1.trans (bl1.mono zw1)
    have zx1 := b0x1.size
    go_wp2_with fail
    rw [← HW1.out]
    have i1 : ¬ ((nc1 : Nat) : Int) < (nc0 : Nat) := by have := HN0.out; have := HN1.out; omega
    have i2 : ¬ ((nc0 : Nat) : Int) + 1 < (nc1 : Nat) := by have := HN0.out; have := HN1.out; omega
    have i3 : IntKind.i64.wrap ((nc0 : Int) + 1) = (nc0 : Int) + 1 := by have := HN0.out; rw [IntKind.wrap_i64]; omega
    refine (repoCheck_of _ R1 _ x1 ⟨_, _, rfl, hc1_x1, hh1_x1⟩ heR).mono ?_; rintro e w2 ⟨_, rfl, rfl, b2⟩
    have hc0_w2 := hc0_x1.call b2
    have hh0_w2 := hh0_x1.call b2
    have hd_w2 := hd_x1.call b2
    have B0_w2 := B0_x1.call b2
    have A0_w2 := A0_x1.call b2
    have hc1_w2 := hc1_x1.call b2
    have hh1_w2 := hh1_x1.call b2
    have B1_w2 := B1_x1.call b2
    clear hc0_x1 hh0_x1 hd_x1 B0_x1 A0_x1 hc1_x1 hh1_x1 B1_x1
    have b0w2 := b0x1.trans (b2.mono zx1)
    have zw2 := b0w2.size
    obtain ⟨aC, cC, q5, q6, hs5, _⟩ := hc1_w2.cutTo aCom (nc0 : Int) nc0 rfl (by have := HN0.out; omega)
    have hs5' : Sl tCommit w2 (fun k => w.heap.size ≤ k) (.slice aC nc0 cC) r.1 := by have := HN0.out; rw [this, htk] at hs5; rw [this]; exact hs5.mono fun k hk _ => by have := zx0; omega
    obtain ⟨x2, hwx2⟩ : ∃ x, x = w2.alloc (.cells #[.slice aC nc0 cC, .slice ah0 nh0 ch0] 25) := ⟨_, rfl⟩
    have bl2 : Below w2.heap.size w2 x2 := by rw [hwx2]; exact (Below.refl _ _).alloc (Nat.le_refl _) _
    have B2_x2 : BoxRow x2 w2.heap.size (.slice aC nc0 cC) (.slice ah0 nh0 ch0) := by rw [hwx2]; exact ⟨heap_alloc_new _ _⟩
    have HW2 := keepBack hwx2
    clear hwx2 q6
    have z02 := b0w2.size
    have k0 := B0_w2.cell0
    have k1 := B0_w2.cell1
    have k2 := B1_w2.cell0
    have k3 := B1_w2.cell1
    have lb0 := (Array.getElem?_eq_some_iff.1 B0_w2.row).1
    have lb1 := (Array.getElem?_eq_some_iff.1 B1_w2.row).1
    have KA : Hid (∀ (o : Obj), (w2.alloc o).cell? ⟨w.heap.size, 0, none⟩ = some (.slice ac0 nc0 cc0) ∧ (w2.alloc o).cell? ⟨w.heap.size, 1, none⟩ = some (.slice ah0 nh0 ch0) ∧ (w2.alloc o).cell? ⟨w1.heap.size, 0, none⟩ = some (.slice ac1 nc1 cc1) ∧ (w2.alloc o).cell? ⟨w1.heap.size, 1, none⟩ = some (.slice ah1 nh1 ch1)) := keepBack fun o => by
      have bo := (Below.refl w2.heap.size w2).alloc (Nat.le_refl _) o
      exact ⟨(B0_w2.call bo).cell0, (B0_w2.call bo).cell1, (B1_w2.call bo).cell0, (B1_w2.call bo).cell1⟩
    have ka1 := (KA.out (.cells #[.slice ac1 nc1 cc1, .slice ah1 nh1 ch1] 25)).1
    have ka2 := (KA.out (.cells #[.slice ac1 nc1 cc1, .slice ah1 nh1 ch1] 25)).2.1
    have ka3 := (KA.out (.cells #[.slice ac1 nc1 cc1, .slice ah1 nh1 ch1] 25)).2.2.1
    have ka4 := (KA.out (.cells #[.slice ac1 nc1 cc1, .slice ah1 nh1 ch1] 25)).2.2.2
    have kb1 := (KA.out (.cells #[.slice aC nc0 cC, .slice ah1 nh1 ch1] 25)).1
    have kb2 := (KA.out (.cells #[.slice aC nc0 cC, .slice ah1 nh1 ch1] 25)).2.1
    have kc1 := (KA.out (.cells #[.slice aC nc0 cC, .slice ah0 nh0 ch0] 25)).1
    have kc2 := (KA.out (.cells #[.slice aC nc0 cC, .slice ah0 nh0 ch0] 25)).2.1
    have hs5x := hs5'.call bl2
    go_wp2_with fail
    rw [← HW2.out]
    clear k0 k1 k2 k3 ka1 ka2 ka3 ka4 kb1 kb2 kc1 kc2 q5 KA hs5 hs5'
    have hc0_x2 := hc0_w2.call bl2
    have hh0_x2 := hh0_w2.call bl2
    have hd_x2 := hd_w2.call bl2
    have B0_x2 := B0_w2.call bl2
    have A0_x2 := A0_w2.call bl2
    have hc1_x2 := hc1_w2.call bl2
    have hh1_x2 := hh1_w2.call bl2
    have B1_x2 := B1_w2.call bl2
    clear hc0_w2 hh0_w2 hd_w2 B0_w2 A0_w2 hc1_w2 hh1_w2 B1_w2
    have b0x2 := b0w2.trans (bl2.mono zw2)
    have zx2 := b0x2.size
    refine (refSameRepos _ _ (r.1, r.2) r _ _ x2 ⟨_, _, rfl, hs5x.any, hh0_x2⟩ ⟨_, _, rfl, hc0_x2, hh0_x2⟩).mono ?_; rintro e w3 ⟨_, rfl, rfl, b3⟩
    rw [decide_eq_true rfl, decide_eq_true rfl]
    have hc0_w3 := hc0_x2.call b3
    have hh0_w3 := hh0_x2.call b3
    have hd_w3 := hd_x2.call b3
    have B0_w3 := B0_x2.call b3
    have A0_w3 := A0_x2.call b3
    have hc1_w3 := hc1_x2.call b3
    have hh1_w3 := hh1_x2.call b3
    have B1_w3 := B1_x2.call b3
    have B2_w3 := B2_x2.call b3
    clear hc0_x2 hh0_x2 hd_x2 B0_x2 A0_x2 hc1_x2 hh1_x2 B1_x2 B2_x2
    have b0w3 := b0x2.trans (b3.mono zx2)
    have zw3 := b0w3.size
    obtain ⟨q, hq⟩ : ∃ q, headP r n = q := ⟨_, rfl⟩
    obtain ⟨q', hq'⟩ : ∃ q, headP R1 n = q := ⟨_, rfl⟩
    have q00 := B0_w3.cell0
    have q01 := B0_w3.cell1
    go_wp2_with fail
    clear q00 q01
    refine (repoHead_of _ r n _ w3 ⟨_, _, rfl, hc0_w3, hh0_w3⟩ hq).mono ?_; rintro e w4 ⟨_, rfl, rfl, bw4⟩
    have hc0_w4 := hc0_w3.call bw4
    have hh0_w4 := hh0_w3.call bw4
    have hd_w4 := hd_w3.call bw4
    have B0_w4 := B0_w3.call bw4
    have A0_w4 := A0_w3.call bw4
    have hc1_w4 := hc1_w3.call bw4
    have hh1_w4 := hh1_w3.call bw4
    have B1_w4 := B1_w3.call bw4
    have B2_w4 := B2_w3.call bw4
    clear hc0_w3 hh0_w3 hd_w3 B0_w3 A0_w3 hc1_w3 hh1_w3 B1_w3 B2_w3
    have b0w4 := b0w3.trans (bw4.mono zw3)
    have zw4 := b0w4.size
    have q10 := B1_w4.cell0
    have q11 := B1_w4.cell1
    go_wp2_with fail
    clear q10 q11
    refine (repoHead_of _ R1 n _ w4 ⟨_, _, rfl, hc1_w4, hh1_w4⟩ hq').mono ?_; rintro e w5 ⟨_, rfl, rfl, bw5⟩
    have hc0_w5 := hc0_w4.call bw5
    have hh0_w5 := hh0_w4.call bw5
    have hd_w5 := hd_w4.call bw5
    have B0_w5 := B0_w4.call bw5
    have A0_w5 := A0_w4.call bw5
    have hc1_w5 := hc1_w4.call bw5
    have hh1_w5 := hh1_w4.call bw5
    have B1_w5 := B1_w4.call bw5
    have B2_w5 := B2_w4.call bw5
    clear hc0_w4 hh0_w4 hd_w4 B0_w4 A0_w4 hc1_w4 hh1_w4 B1_w4 B2_w4
    have b0w5 := b0w4.trans (bw5.mono zw4)
    have zw5 := b0w5.size
    go_wp2_with fail
    refine (workBegun _).mono ?_; rintro e w6 ⟨_, rfl, rfl, bw6⟩
    have hc0_w6 := hc0_w5.call bw6
    have hh0_w6 := hh0_w5.call bw6
    have hd_w6 := hd_w5.call bw6
    have B0_w6 := B0_w5.call bw6
    have A0_w6 := A0_w5.call bw6
    have hc1_w6 := hc1_w5.call bw6
    have hh1_w6 := hh1_w5.call bw6
    have B1_w6 := B1_w5.call bw6
    have B2_w6 := B2_w5.call bw6
    clear hc0_w5 hh0_w5 hd_w5 B0_w5 A0_w5 hc1_w5 hh1_w5 B1_w5 B2_w5
    have b0w6 := b0w5.trans (bw6.mono zw5)
    have zw6 := b0w6.size
    have ca := A0_w6.cell1
    cases hna : (n.toList == a.toList)
    · have hqq : q' = q := by rw [← hq, ← hq']; exact hoth n (fun e => by rw [e] at hna; simp at hna)
      subst hqq
      go_wp2
      go_ret
      exact ⟨_, rfl, rfl, b0w6⟩
    · go_wp2
      go_ret
      exact ⟨_, rfl, rfl, b0w6⟩
  · have hq : (E1 != 0) = true := by simp [hE]
    go_enter Try.func6, Try.ntmps6
    go_wp2_with fail
    rw [← HW0.out]
    refine (logDo_of _ _ r (k, a, b, d) _ _ x0 ⟨_, _, rfl, hc0_x0, hh0_x0⟩ ⟨_, rfl, hd_x0⟩ hp).mono ?_; rintro e w1 ⟨_, rfl, ⟨y1, rfl, hy1⟩, bw1⟩
    have hc0_w1 := hc0_x0.call bw1
    have hh0_w1 := hh0_x0.call bw1
    have hd_w1 := hd_x0.call bw1
    have B0_w1 := B0_x0.call bw1
    have A0_w1 := A0_x0.call bw1
    clear hc0_x0 hh0_x0 hd_x0 B0_x0 A0_x0
    have b0w1 := b0x0.trans (bw1.mono zx0)
    have zw1 := b0w1.size
    obtain ⟨vc1, vh1, rfl, hc1_w1, hh1_w1⟩ := hy1
    obtain ⟨ac1, cc1, hvc1, _, _, _⟩ := hc1_w1.shape
    obtain ⟨ah1, ch1, hvh1, _, _, _⟩ := hh1_w1.shape
    obtain ⟨nc1, hnc1⟩ : ∃ n, n = R1.1.length := ⟨_, rfl⟩
    obtain ⟨nh1, hnh1⟩ : ∃ n, n = R1.2.length := ⟨_, rfl⟩
    rw [← hnc1] at hvc1
    rw [← hnh1] at hvh1
    clear hnc1 hnh1
    subst hvc1 hvh1
    obtain ⟨x1, hwx1⟩ : ∃ x, x = w1.alloc (.cells #[.slice ac1 nc1 cc1, .slice ah1 nh1 ch1] 25) := ⟨_, rfl⟩
    have bl1 : Below w1.heap.size w1 x1 := by rw [hwx1]; exact (Below.refl _ _).alloc (Nat.le_refl _) _
    have B1_x1 : BoxRow x1 w1.heap.size (.slice ac1 nc1 cc1) (.slice ah1 nh1 ch1) := by rw [hwx1]; exact ⟨heap_alloc_new _ _⟩
    have HW1 := keepBack hwx1
    clear hwx1
    have hc0_x1 := hc0_w1.call bl1
    have hh0_x1 := hh0_w1.call bl1
    have hd_x1 := hd_w1.call bl1
    have B0_x1 := B0_w1.call bl1
    have A0_x1 := A0_w1.call bl1
    have hc1_x1 := hc1_w1.call bl1
    have hh1_x1 := hh1_w1.call bl1
    clear hc0_w1 hh0_w1 hd_w1 B0_w1 A0_w1 hc1_w1 hh1_w1
    have b0x1 := b0w1.trans (bl1.mono zw1)
    have zx1 := b0x1.size
    go_wp2_with fail
    rw [← HW1.out]
    refine (workBegun _).mono ?_; rintro e wz ⟨_, rfl, rfl, bwz⟩
    have hc0_wz := hc0_x1.call bwz
    have hh0_wz := hh0_x1.call bwz
    have hd_wz := hd_x1.call bwz
    have B0_wz := B0_x1.call bwz
    have A0_wz := A0_x1.call bwz
    have hc1_wz := hc1_x1.call bwz
    have hh1_wz := hh1_x1.call bwz
    have B1_wz := B1_x1.call bwz
    clear hc0_x1 hh0_x1 hd_x1 B0_x1 A0_x1 hc1_x1 hh1_x1 B1_x1
    have b0wz := b0x1.trans (bwz.mono zx1)
    have zwz := b0wz.size
    go_wp2
    go_ret
    exact ⟨_, rfl, rfl, b0wz⟩

end Go.Pch
end
