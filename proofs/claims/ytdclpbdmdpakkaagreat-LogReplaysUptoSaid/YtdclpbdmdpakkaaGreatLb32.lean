/- The walk of workBegun. -/
import Derived.Test.YtdclpbdmdpakkaaGreatLb28
import Derived.Test.YtdclpbdmdpakkaaGreatLb24
import Derived.Test.YtdclpbdmdpakkaaGreatLb31
section
namespace Go.Pch
open Go.RowKit Go.Proofs
set_option maxRecDepth 100000

abbrev sMain : ByteArray := ByteArray.mk #[109, 97, 105, 110]
abbrev sSide : ByteArray := ByteArray.mk #[115, 105, 100, 101]
abbrev sNew : ByteArray := ByteArray.mk #[110, 101, 119]
abbrev shopR : Repo := (crossL, H3 sMain sSide)
def putC : List Commit := crossL ++ [([(2, 5), (7, 4), (9, 30)], [1])]
theorem putA : jPut shopR sSide [(7, 0, 4)] = ((putC, [(sMain, 3), (sSide, 6)]), 0) := by decide +kernel
theorem putB : jPut shopR sSide [(7, 1, 4)] = (noRepo, 7) := by decide +kernel
theorem putC0 : jPut shopR sSide [] = (noRepo, 9) := by decide +kernel
theorem brA : jBranch shopR sNew sSide = ((crossL, [(sMain, 3), (sNew, 1), (sSide, 1)]), 0) := by decide +kernel
theorem drA : jDrop shopR sMain = ((crossL, [(sSide, 1)]), 0) := by decide +kernel
theorem joA : jJoin (putC, [(sMain, 3), (sSide, 6)]) sMain sSide = (noRepo, [7], 7) := by decide +kernel
theorem joB : jJoin shopR sMain sSide = (noRepo, [], 9) := by decide +kernel
theorem joC : jJoin shopR sSide sMain = ((crossL, [(sMain, 3), (sSide, 3)]), [], 0) := by decide +kernel

theorem workPut_of {c : Repo × Int} (v u : Value) (r : Repo) (s : ByteArray) (d : List Change) (S S' : Blk) (w : World) (h : Rp w S v r) (g : Sl tChange w S' u d) (hc : jPut r s d = c) :
    Calls Tryz.prog 38 #[v, .string s, u] w (Ret w (RepoRet w.heap.size c)) := hc ▸ workPut v u r s d S S' w h g
theorem workBranch_of {c : Repo × Int} (v : Value) (r : Repo) (s f : ByteArray) (S : Blk) (w : World) (h : Rp w S v r) (hc : jBranch r s f = c) :
    Calls Tryz.prog 40 #[v, .string s, .string f] w (Ret w (RepoRet w.heap.size c)) := hc ▸ workBranch v r s f S w h
theorem workDrop_of {c : Repo × Int} (v : Value) (r : Repo) (s : ByteArray) (S : Blk) (w : World) (h : Rp w S v r) (hc : jDrop r s = c) :
    Calls Tryz.prog 41 #[v, .string s] w (Ret w (RepoRet w.heap.size c)) := hc ▸ workDrop v r s S w h
theorem workMerge_of {c : Repo × List Int × Int} (v : Value) (r : Repo) (s f : ByteArray) (S : Blk) (w : World) (h : Rp w S v r) (hc : jJoin r s f = c) :
    Calls Tryz.prog 8 #[v, .string s, .string f] w (Ret w (JoinRet w.heap.size c)) := hc ▸ workMerge v r s f S w h
theorem oneChg (w : World) (a b c : Int) (ha : i64ok a) (hb : i64ok b) (hc : i64ok c) : Sl tChange (w.alloc (.cells #[.int .i64 a, .int .i64 b, .int .i64 c] 81)) (fun k => w.heap.size ≤ k) (.slice (some ⟨w.heap.size, 0, none⟩) 1 1) [(a, b, c)] :=
  (Own.lit (E := tChange) (e := 81) (B := w.heap.size) (C := fun _ => False) (Each.one [.int .i64 a, .int .i64 b, .int .i64 c] (a, b, c) ⟨rfl, ha, hb, hc⟩) rfl (by simp [maxLen]) (Nat.le_refl _)).sl (fun _ h => h.elim) (fun _ h => h)

theorem litAt (w : World) (n : Int) (hn : i64ok n) (k : Nat) (hk : k = w.heap.size) : Sl tInt (w.alloc (.cells #[.int .i64 n] 3)) (fun k => w.heap.size ≤ k) (.slice (some ⟨k, 0, none⟩) 1 1) [n] := by
  subst hk
  exact dLitOne w n hn
/-- A repo in a box. -/
structure BoxRow (w : World) (g : Nat) (x0 x1 : Value) : Prop where
  row : w.heap[g]? = some (.cells #[x0, x1] 25)
theorem BoxRow.call {w w' : World} {g : Nat} {x0 x1 : Value} (h : BoxRow w g x0 x1) (hb : Below w.heap.size w w') : BoxRow w' g x0 x1 := ⟨(hb.block g (Array.getElem?_eq_some_iff.1 h.row).1).trans h.row⟩
theorem BoxRow.cell0 {w : World} {g : Nat} {x0 x1 : Value} (h : BoxRow w g x0 x1) : w.cell? ⟨g, 0, none⟩ = some x0 := by rw [World.cell?, h.row]; rfl
theorem BoxRow.cell1 {w : World} {g : Nat} {x0 x1 : Value} (h : BoxRow w g x0 x1) : w.cell? ⟨g, 1, none⟩ = some x1 := by rw [World.cell?, h.row]; rfl

--WALK
set_option maxHeartbeats 8000000 in
theorem workBegun (w : World) : Calls Tryz.prog 10 #[] w (Ret w fun r _ => r = .bool true) := by
  go_enter Tryz.func10, Tryz.ntmps10
  go_wp2_with fail
  refine (shopAt _).mono ?_; rintro e s1 ⟨_, rfl, ⟨a1, c1, g1, rfl, h1⟩, bs1⟩
  have b0s1 := bs1
  have zs1 := b0s1.size
  go_wp2_with fail
  obtain ⟨wl1, hwl1⟩ : ∃ wl1, wl1 = s1.alloc (.cells #[.int .i64 7, .int .i64 0, .int .i64 4] 81) := ⟨_, rfl⟩
  have bl1 : Below s1.heap.size s1 wl1 := by rw [hwl1]; exact (Below.refl _ _).alloc (Nat.le_refl _) _
  have sl1 : Sl tChange wl1 (fun k => s1.heap.size ≤ k) (.slice (some ⟨s1.heap.size, 0, none⟩) 1 1) [(7, 0, 4)] := by rw [hwl1]; exact oneChg s1 7 0 4 (ok_small (by decide)) (ok_small (by decide)) (ok_small (by decide))
  have hl1 := h1.call bl1
  rw [← hwl1]
  clear hwl1 h1
  have b0wl1 := b0s1.trans (bl1.mono zs1)
  have zwl1 := b0wl1.size
  refine (workPut_of _ _ shopR sSide [(7, 0, 4)] _ _ wl1 (hl1.rp (by decide) (by decide)) sl1 putA).mono ?_; rintro e p1 ⟨_, rfl, ⟨y1, rfl, hy1⟩, bp1⟩
  have b0p1 := b0wl1.trans (bp1.mono zwl1)
  have zp1 := b0p1.size
  obtain ⟨vc1, vh1, rfl, hc1_p1, hh1_p1⟩ := hy1
  obtain ⟨ac1, cc1, rfl, _, _, _⟩ := hc1_p1.shapeAt 7 rfl
  obtain ⟨ah1, ch1, rfl, _, _, _⟩ := hh1_p1.shapeAt 2 rfl
  clear hl1 sl1
  go_wp2_with fail
  obtain ⟨wlb1, hwlb1⟩ : ∃ wlb1, wlb1 = p1.alloc (.cells #[.slice ac1 7 cc1, .slice ah1 2 ch1] 25) := ⟨_, rfl⟩
  have blb1 : Below p1.heap.size p1 wlb1 := by rw [hwlb1]; exact (Below.refl _ _).alloc (Nat.le_refl _) _
  have B1_wlb1 : BoxRow wlb1 p1.heap.size (.slice ac1 7 cc1) (.slice ah1 2 ch1) := by rw [hwlb1]; exact ⟨heap_alloc_new _ _⟩
  have HW1 := keepBack hwlb1
  clear hwlb1
  have hc1_wlb1 := hc1_p1.call blb1
  have hh1_wlb1 := hh1_p1.call blb1
  clear hc1_p1 hh1_p1
  have b0wlb1 := b0p1.trans (blb1.mono zp1)
  have zwlb1 := b0wlb1.size
  go_wp2_with fail
  rw [← HW1.out]
  refine (shopAt _).mono ?_; rintro e s2 ⟨_, rfl, ⟨a2, c2, g2, rfl, h2⟩, bs2⟩
  have hc1_s2 := hc1_wlb1.call bs2
  have hh1_s2 := hh1_wlb1.call bs2
  have B1_s2 := B1_wlb1.call bs2
  clear hc1_wlb1 hh1_wlb1 B1_wlb1
  have b0s2 := b0wlb1.trans (bs2.mono zwlb1)
  have zs2 := b0s2.size
  go_wp2_with fail
  obtain ⟨wl2, hwl2⟩ : ∃ wl2, wl2 = s2.alloc (.cells #[.int .i64 7, .int .i64 1, .int .i64 4] 81) := ⟨_, rfl⟩
  have bl2 : Below s2.heap.size s2 wl2 := by rw [hwl2]; exact (Below.refl _ _).alloc (Nat.le_refl _) _
  have sl2 : Sl tChange wl2 (fun k => s2.heap.size ≤ k) (.slice (some ⟨s2.heap.size, 0, none⟩) 1 1) [(7, 1, 4)] := by rw [hwl2]; exact oneChg s2 7 1 4 (ok_small (by decide)) (ok_small (by decide)) (ok_small (by decide))
  have hl2 := h2.call bl2
  rw [← hwl2]
  clear hwl2 h2
  have hc1_wl2 := hc1_s2.call bl2
  have hh1_wl2 := hh1_s2.call bl2
  have B1_wl2 := B1_s2.call bl2
  clear hc1_s2 hh1_s2 B1_s2
  have b0wl2 := b0s2.trans (bl2.mono zs2)
  have zwl2 := b0wl2.size
  refine (workPut_of _ _ shopR sSide [(7, 1, 4)] _ _ wl2 (hl2.rp (by decide) (by decide)) sl2 putB).mono ?_; rintro e p2 ⟨_, rfl, ⟨y2, rfl, hy2⟩, bp2⟩
  have hc1_p2 := hc1_wl2.call bp2
  have hh1_p2 := hh1_wl2.call bp2
  have B1_p2 := B1_wl2.call bp2
  clear hc1_wl2 hh1_wl2 B1_wl2
  have b0p2 := b0wl2.trans (bp2.mono zwl2)
  have zp2 := b0p2.size
  clear hl2 sl2
  obtain ⟨vc2, vh2, rfl, hc2, hh2⟩ := hy2
  obtain ⟨ac2, cc2, rfl, _, _, _⟩ := hc2.shapeAt 0 rfl
  obtain ⟨ah2, ch2, rfl, _, _, _⟩ := hh2.shapeAt 0 rfl
  clear hc2 hh2
  go_wp2_with fail
  obtain ⟨wlb2, hwlb2⟩ : ∃ wlb2, wlb2 = p2.alloc (.cells #[.slice ac2 0 cc2, .slice ah2 0 ch2] 25) := ⟨_, rfl⟩
  have blb2 : Below p2.heap.size p2 wlb2 := by rw [hwlb2]; exact (Below.refl _ _).alloc (Nat.le_refl _) _
  have HW2 := keepBack hwlb2
  clear hwlb2
  have hc1_wlb2 := hc1_p2.call blb2
  have hh1_wlb2 := hh1_p2.call blb2
  have B1_wlb2 := B1_p2.call blb2
  clear hc1_p2 hh1_p2 B1_p2
  have b0wlb2 := b0p2.trans (blb2.mono zp2)
  have zwlb2 := b0wlb2.size
  go_wp2_with fail
  rw [← HW2.out]
  refine (shopAt _).mono ?_; rintro e s3 ⟨_, rfl, ⟨a3, c3, g3, rfl, h3⟩, bs3⟩
  have hc1_s3 := hc1_wlb2.call bs3
  have hh1_s3 := hh1_wlb2.call bs3
  have B1_s3 := B1_wlb2.call bs3
  clear hc1_wlb2 hh1_wlb2 B1_wlb2
  have b0s3 := b0wlb2.trans (bs3.mono zwlb2)
  have zs3 := b0s3.size
  go_wp2_with fail
  refine (workBranch_of _ shopR sNew sSide _ s3 (h3.rp (by decide) (by decide)) brA).mono ?_; rintro e p3 ⟨_, rfl, ⟨y3, rfl, hy3⟩, bp3⟩
  have hc1_p3 := hc1_s3.call bp3
  have hh1_p3 := hh1_s3.call bp3
  have B1_p3 := B1_s3.call bp3
  clear hc1_s3 hh1_s3 B1_s3
  have b0p3 := b0s3.trans (bp3.mono zs3)
  have zp3 := b0p3.size
  obtain ⟨vc3, vh3, rfl, hc3_p3, hh3_p3⟩ := hy3
  obtain ⟨ac3, cc3, rfl, _, _, _⟩ := hc3_p3.shapeAt 6 rfl
  obtain ⟨ah3, ch3, rfl, _, _, _⟩ := hh3_p3.shapeAt 3 rfl
  clear h3 hc3_p3
  go_wp2_with fail
  obtain ⟨wlb3, hwlb3⟩ : ∃ wlb3, wlb3 = p3.alloc (.cells #[.slice ac3 6 cc3, .slice ah3 3 ch3] 25) := ⟨_, rfl⟩
  have blb3 : Below p3.heap.size p3 wlb3 := by rw [hwlb3]; exact (Below.refl _ _).alloc (Nat.le_refl _) _
  have B3_wlb3 : BoxRow wlb3 p3.heap.size (.slice ac3 6 cc3) (.slice ah3 3 ch3) := by rw [hwlb3]; exact ⟨heap_alloc_new _ _⟩
  have HW3 := keepBack hwlb3
  clear hwlb3
  have hc1_wlb3 := hc1_p3.call blb3
  have hh1_wlb3 := hh1_p3.call blb3
  have B1_wlb3 := B1_p3.call blb3
  have hh3_wlb3 := hh3_p3.call blb3
  clear hc1_p3 hh1_p3 B1_p3 hh3_p3
  have b0wlb3 := b0p3.trans (blb3.mono zp3)
  have zwlb3 := b0wlb3.size
  go_wp2_with fail
  rw [← HW3.out]
  refine (shopAt _).mono ?_; rintro e s4 ⟨_, rfl, ⟨a4, c4, g4, rfl, h4⟩, bs4⟩
  have hc1_s4 := hc1_wlb3.call bs4
  have hh1_s4 := hh1_wlb3.call bs4
  have B1_s4 := B1_wlb3.call bs4
  have hh3_s4 := hh3_wlb3.call bs4
  have B3_s4 := B3_wlb3.call bs4
  clear hc1_wlb3 hh1_wlb3 B1_wlb3 hh3_wlb3 B3_wlb3
  have b0s4 := b0wlb3.trans (bs4.mono zwlb3)
  have zs4 := b0s4.size
  go_wp2_with fail
  refine (workDrop_of _ shopR sMain _ s4 (h4.rp (by decide) (by decide)) drA).mono ?_; rintro e p4 ⟨_, rfl, ⟨y4, rfl, hy4⟩, bp4⟩
  have hc1_p4 := hc1_s4.call bp4
  have hh1_p4 := hh1_s4.call bp4
  have B1_p4 := B1_s4.call bp4
  have hh3_p4 := hh3_s4.call bp4
  have B3_p4 := B3_s4.call bp4
  clear hc1_s4 hh1_s4 B1_s4 hh3_s4 B3_s4
  have b0p4 := b0s4.trans (bp4.mono zs4)
  have zp4 := b0p4.size
  obtain ⟨vc4, vh4, rfl, hc4_p4, hh4_p4⟩ := hy4
  obtain ⟨ac4, cc4, rfl, _, _, _⟩ := hc4_p4.shapeAt 6 rfl
  obtain ⟨ah4, ch4, rfl, _, _, _⟩ := hh4_p4.shapeAt 1 rfl
  clear h4 hc4_p4 hh4_p4
  obtain ⟨wlb4, hwlb4⟩ : ∃ wlb4, wlb4 = p4.alloc (.cells #[.slice ac4 6 cc4, .slice ah4 1 ch4] 25) := ⟨_, rfl⟩
  have blb4 : Below p4.heap.size p4 wlb4 := by rw [hwlb4]; exact (Below.refl _ _).alloc (Nat.le_refl _) _
  have B4_wlb4 : BoxRow wlb4 p4.heap.size (.slice ac4 6 cc4) (.slice ah4 1 ch4) := by rw [hwlb4]; exact ⟨heap_alloc_new _ _⟩
  have HW4 := keepBack hwlb4
  clear hwlb4
  have hc1_wlb4 := hc1_p4.call blb4
  have hh1_wlb4 := hh1_p4.call blb4
  have B1_wlb4 := B1_p4.call blb4
  have hh3_wlb4 := hh3_p4.call blb4
  have B3_wlb4 := B3_p4.call blb4
  clear hc1_p4 hh1_p4 B1_p4 hh3_p4 B3_p4
  have b0wlb4 := b0p4.trans (blb4.mono zp4)
  have zwlb4 := b0wlb4.size
  have qa0 := B1_wlb4.cell0
  have qa1 := B1_wlb4.cell1
  rw [HW4.out] at qa0 qa1
  go_wp2_with fail
  rw [← HW4.out]
  clear qa0 qa1
  refine (workMerge_of _ (putC, [(sMain, 3), (sSide, 6)]) sMain sSide _ wlb4 ⟨_, _, rfl, hc1_wlb4.any, hh1_wlb4.any⟩ joA).mono ?_; rintro e p5 ⟨_, rfl, ⟨y5, u5, rfl, hy5, hu5_p5⟩, bp5⟩
  have hc1_p5 := hc1_wlb4.call bp5
  have hh1_p5 := hh1_wlb4.call bp5
  have B1_p5 := B1_wlb4.call bp5
  have hh3_p5 := hh3_wlb4.call bp5
  have B3_p5 := B3_wlb4.call bp5
  have B4_p5 := B4_wlb4.call bp5
  clear hc1_wlb4 hh1_wlb4 B1_wlb4 hh3_wlb4 B3_wlb4 B4_wlb4
  have b0p5 := b0wlb4.trans (bp5.mono zwlb4)
  have zp5 := b0p5.size
  obtain ⟨vc5, vh5, rfl, hc5_p5, hh5_p5⟩ := hy5
  obtain ⟨ac5, cc5, rfl, _, _, _⟩ := hc5_p5.shapeAt 0 rfl
  obtain ⟨ah5, ch5, rfl, _, _, _⟩ := hh5_p5.shapeAt 0 rfl
  clear hc5_p5 hh5_p5
  obtain ⟨au5, cu5, rfl, _, _, _⟩ := hu5_p5.shapeAt 1 rfl
  go_wp2_with fail
  obtain ⟨wlb5, hwlb5⟩ : ∃ wlb5, wlb5 = p5.alloc (.cells #[.slice ac5 0 cc5, .slice ah5 0 ch5] 25) := ⟨_, rfl⟩
  have blb5 : Below p5.heap.size p5 wlb5 := by rw [hwlb5]; exact (Below.refl _ _).alloc (Nat.le_refl _) _
  have B5_wlb5 : BoxRow wlb5 p5.heap.size (.slice ac5 0 cc5) (.slice ah5 0 ch5) := by rw [hwlb5]; exact ⟨heap_alloc_new _ _⟩
  have HW5 := keepBack hwlb5
  clear hwlb5
  have hc1_wlb5 := hc1_p5.call blb5
  have hh1_wlb5 := hh1_p5.call blb5
  have B1_wlb5 := B1_p5.call blb5
  have hh3_wlb5 := hh3_p5.call blb5
  have B3_wlb5 := B3_p5.call blb5
  have B4_wlb5 := B4_p5.call blb5
  have hu5_wlb5 := hu5_p5.call blb5
  clear hc1_p5 hh1_p5 B1_p5 hh3_p5 B3_p5 B4_p5 hu5_p5
  have b0wlb5 := b0p5.trans (blb5.mono zp5)
  have zwlb5 := b0wlb5.size
  go_wp2_with fail
  rw [← HW5.out]
  refine (shopAt _).mono ?_; rintro e s6 ⟨_, rfl, ⟨a6, c6, g6, rfl, h6⟩, bs6⟩
  have hc1_s6 := hc1_wlb5.call bs6
  have hh1_s6 := hh1_wlb5.call bs6
  have B1_s6 := B1_wlb5.call bs6
  have hh3_s6 := hh3_wlb5.call bs6
  have B3_s6 := B3_wlb5.call bs6
  have B4_s6 := B4_wlb5.call bs6
  have hu5_s6 := hu5_wlb5.call bs6
  have B5_s6 := B5_wlb5.call bs6
  clear hc1_wlb5 hh1_wlb5 B1_wlb5 hh3_wlb5 B3_wlb5 B4_wlb5 hu5_wlb5 B5_wlb5
  have b0s6 := b0wlb5.trans (bs6.mono zwlb5)
  have zs6 := b0s6.size
  go_wp2_with fail
  refine (workMerge_of _ shopR sMain sSide _ s6 (h6.rp (by decide) (by decide)) joB).mono ?_; rintro e p6 ⟨_, rfl, ⟨y6, u6, rfl, hy6, hu6⟩, bp6⟩
  have hc1_p6 := hc1_s6.call bp6
  have hh1_p6 := hh1_s6.call bp6
  have B1_p6 := B1_s6.call bp6
  have hh3_p6 := hh3_s6.call bp6
  have B3_p6 := B3_s6.call bp6
  have B4_p6 := B4_s6.call bp6
  have hu5_p6 := hu5_s6.call bp6
  have B5_p6 := B5_s6.call bp6
  clear hc1_s6 hh1_s6 B1_s6 hh3_s6 B3_s6 B4_s6 hu5_s6 B5_s6
  have b0p6 := b0s6.trans (bp6.mono zs6)
  have zp6 := b0p6.size
  obtain ⟨vc6, vh6, rfl, hc6_p6, hh6_p6⟩ := hy6
  obtain ⟨ac6, cc6, rfl, _, _, _⟩ := hc6_p6.shapeAt 0 rfl
  obtain ⟨ah6, ch6, rfl, _, _, _⟩ := hh6_p6.shapeAt 0 rfl
  clear hc6_p6 hh6_p6 h6
  obtain ⟨au6, cu6, rfl, _, _, _⟩ := hu6.shapeAt 0 rfl
  clear hu6
  go_wp2_with fail
  obtain ⟨wlb6, hwlb6⟩ : ∃ wlb6, wlb6 = p6.alloc (.cells #[.slice ac6 0 cc6, .slice ah6 0 ch6] 25) := ⟨_, rfl⟩
  have blb6 : Below p6.heap.size p6 wlb6 := by rw [hwlb6]; exact (Below.refl _ _).alloc (Nat.le_refl _) _
  have HW6 := keepBack hwlb6
  clear hwlb6
  have hc1_wlb6 := hc1_p6.call blb6
  have hh1_wlb6 := hh1_p6.call blb6
  have B1_wlb6 := B1_p6.call blb6
  have hh3_wlb6 := hh3_p6.call blb6
  have B3_wlb6 := B3_p6.call blb6
  have B4_wlb6 := B4_p6.call blb6
  have hu5_wlb6 := hu5_p6.call blb6
  have B5_wlb6 := B5_p6.call blb6
  clear hc1_p6 hh1_p6 B1_p6 hh3_p6 B3_p6 B4_p6 hu5_p6 B5_p6
  have b0wlb6 := b0p6.trans (blb6.mono zp6)
  have zwlb6 := b0wlb6.size
  go_wp2_with fail
  rw [← HW6.out]
  refine (shopAt _).mono ?_; rintro e s7 ⟨_, rfl, ⟨a7, c7, g7, rfl, h7⟩, bs7⟩
  have hc1_s7 := hc1_wlb6.call bs7
  have hh1_s7 := hh1_wlb6.call bs7
  have B1_s7 := B1_wlb6.call bs7
  have hh3_s7 := hh3_wlb6.call bs7
  have B3_s7 := B3_wlb6.call bs7
  have B4_s7 := B4_wlb6.call bs7
  have hu5_s7 := hu5_wlb6.call bs7
  have B5_s7 := B5_wlb6.call bs7
  clear hc1_wlb6 hh1_wlb6 B1_wlb6 hh3_wlb6 B3_wlb6 B4_wlb6 hu5_wlb6 B5_wlb6
  have b0s7 := b0wlb6.trans (bs7.mono zwlb6)
  have zs7 := b0s7.size
  go_wp2_with fail
  refine (workMerge_of _ shopR sSide sMain _ s7 (h7.rp (by decide) (by decide)) joC).mono ?_; rintro e p7 ⟨_, rfl, ⟨y7, u7, rfl, hy7, hu7⟩, bp7⟩
  have hc1_p7 := hc1_s7.call bp7
  have hh1_p7 := hh1_s7.call bp7
  have B1_p7 := B1_s7.call bp7
  have hh3_p7 := hh3_s7.call bp7
  have B3_p7 := B3_s7.call bp7
  have B4_p7 := B4_s7.call bp7
  have hu5_p7 := hu5_s7.call bp7
  have B5_p7 := B5_s7.call bp7
  clear hc1_s7 hh1_s7 B1_s7 hh3_s7 B3_s7 B4_s7 hu5_s7 B5_s7
  have b0p7 := b0s7.trans (bp7.mono zs7)
  have zp7 := b0p7.size
  obtain ⟨vc7, vh7, rfl, hc7_p7, hh7_p7⟩ := hy7
  obtain ⟨ac7, cc7, rfl, _, _, _⟩ := hc7_p7.shapeAt 6 rfl
  obtain ⟨ah7, ch7, rfl, _, _, _⟩ := hh7_p7.shapeAt 2 rfl
  clear hc7_p7 h7
  obtain ⟨au7, cu7, rfl, _, _, _⟩ := hu7.shapeAt 0 rfl
  clear hu7
  go_wp2_with fail
  obtain ⟨wlb7, hwlb7⟩ : ∃ wlb7, wlb7 = p7.alloc (.cells #[.slice ac7 6 cc7, .slice ah7 2 ch7] 25) := ⟨_, rfl⟩
  have blb7 : Below p7.heap.size p7 wlb7 := by rw [hwlb7]; exact (Below.refl _ _).alloc (Nat.le_refl _) _
  have B7_wlb7 : BoxRow wlb7 p7.heap.size (.slice ac7 6 cc7) (.slice ah7 2 ch7) := by rw [hwlb7]; exact ⟨heap_alloc_new _ _⟩
  have HW7 := keepBack hwlb7
  clear hwlb7
  have hc1_wlb7 := hc1_p7.call blb7
  have hh1_wlb7 := hh1_p7.call blb7
  have B1_wlb7 := B1_p7.call blb7
  have hh3_wlb7 := hh3_p7.call blb7
  have B3_wlb7 := B3_p7.call blb7
  have B4_wlb7 := B4_p7.call blb7
  have hu5_wlb7 := hu5_p7.call blb7
  have B5_wlb7 := B5_p7.call blb7
  have hh7_wlb7 := hh7_p7.call blb7
  clear hc1_p7 hh1_p7 B1_p7 hh3_p7 B3_p7 B4_p7 hu5_p7 B5_p7 hh7_p7
  have b0wlb7 := b0p7.trans (blb7.mono zp7)
  have zwlb7 := b0wlb7.size
  go_wp2_with fail
  rw [← HW7.out]
  refine (shopAt _).mono ?_; rintro e s8 ⟨_, rfl, ⟨a8, c8, g8, rfl, h8⟩, bs8⟩
  have hc1_s8 := hc1_wlb7.call bs8
  have hh1_s8 := hh1_wlb7.call bs8
  have B1_s8 := B1_wlb7.call bs8
  have hh3_s8 := hh3_wlb7.call bs8
  have B3_s8 := B3_wlb7.call bs8
  have B4_s8 := B4_wlb7.call bs8
  have hu5_s8 := hu5_wlb7.call bs8
  have B5_s8 := B5_wlb7.call bs8
  have hh7_s8 := hh7_wlb7.call bs8
  have B7_s8 := B7_wlb7.call bs8
  clear hc1_wlb7 hh1_wlb7 B1_wlb7 hh3_wlb7 B3_wlb7 B4_wlb7 hu5_wlb7 B5_wlb7 hh7_wlb7 B7_wlb7
  have b0s8 := b0wlb7.trans (bs8.mono zwlb7)
  have zs8 := b0s8.size
  go_wp2_with fail
  refine (workPut_of _ _ shopR sSide [] _ (fun _ => True) s8 (h8.rp (by decide) (by decide)) (Sl.nil _ _ _) putC0).mono ?_; rintro e p8 ⟨_, rfl, ⟨y8, rfl, hy8⟩, bp8⟩
  have hc1_p8 := hc1_s8.call bp8
  have hh1_p8 := hh1_s8.call bp8
  have B1_p8 := B1_s8.call bp8
  have hh3_p8 := hh3_s8.call bp8
  have B3_p8 := B3_s8.call bp8
  have B4_p8 := B4_s8.call bp8
  have hu5_p8 := hu5_s8.call bp8
  have B5_p8 := B5_s8.call bp8
  have hh7_p8 := hh7_s8.call bp8
  have B7_p8 := B7_s8.call bp8
  clear hc1_s8 hh1_s8 B1_s8 hh3_s8 B3_s8 B4_s8 hu5_s8 B5_s8 hh7_s8 B7_s8
  have b0p8 := b0s8.trans (bp8.mono zs8)
  have zp8 := b0p8.size
  obtain ⟨vc8, vh8, rfl, hc8, hh8⟩ := hy8
  obtain ⟨ac8, cc8, rfl, _, _, _⟩ := hc8.shapeAt 0 rfl
  obtain ⟨ah8, ch8, rfl, _, _, _⟩ := hh8.shapeAt 0 rfl
  clear hc8 hh8 h8
  obtain ⟨wlb8, hwlb8⟩ : ∃ wlb8, wlb8 = p8.alloc (.cells #[.slice ac8 0 cc8, .slice ah8 0 ch8] 25) := ⟨_, rfl⟩
  have blb8 : Below p8.heap.size p8 wlb8 := by rw [hwlb8]; exact (Below.refl _ _).alloc (Nat.le_refl _) _
  have HW8 := keepBack hwlb8
  clear hwlb8
  have hc1_wlb8 := hc1_p8.call blb8
  have hh1_wlb8 := hh1_p8.call blb8
  have B1_wlb8 := B1_p8.call blb8
  have hh3_wlb8 := hh3_p8.call blb8
  have B3_wlb8 := B3_p8.call blb8
  have B4_wlb8 := B4_p8.call blb8
  have hu5_wlb8 := hu5_p8.call blb8
  have B5_wlb8 := B5_p8.call blb8
  have hh7_wlb8 := hh7_p8.call blb8
  have B7_wlb8 := B7_p8.call blb8
  clear hc1_p8 hh1_p8 B1_p8 hh3_p8 B3_p8 B4_p8 hu5_p8 B5_p8 hh7_p8 B7_p8
  have b0wlb8 := b0p8.trans (blb8.mono zp8)
  have zwlb8 := b0wlb8.size
  have c10 := B1_wlb8.cell0
  have c11 := B1_wlb8.cell1
  have c30 := B3_wlb8.cell0
  have c31 := B3_wlb8.cell1
  have c40 := B4_wlb8.cell0
  have c41 := B4_wlb8.cell1
  have c50 := B5_wlb8.cell0
  have c51 := B5_wlb8.cell1
  have c70 := B7_wlb8.cell0
  have c71 := B7_wlb8.cell1
  obtain ⟨d1, o1, ix1, _, ld1, _, _, n1, m1⟩ := hh1_wlb8.idxHeadAt aHead 1 1 (sSide, 6) rfl rfl
  obtain ⟨dc, oc, cr, cp, dr, dp, ixc, _, ldc, hrr, hpp, _, _, _, _, hcr, hcp⟩ := hc1_wlb8.idxCommitAt aCom 6 6 rfl (by decide) [(2, 5), (7, 4), (9, 30)] [1] rfl
  rw [HW8.out] at c10 c11 c30 c31 c40 c41 c50 c51 c70 c71 n1 m1 hcr hcp
  go_wp2_with fail
  rw [← HW8.out]
  clear ix1 ixc c10 c11 c30 c31 c40 c41 c50 c51 c70 c71 n1 m1 hcr hcp
  have hpp_wlb8 := hpp
  have HS8 : Hid (p8.heap.size + 1 = wlb8.heap.size) := keepBack (by rw [HW8.out]; simp)
  have hli1 : Sl tInt (wlb8.alloc (.cells #[.int .i64 1] 3)) (fun k => wlb8.heap.size ≤ k) (.slice (some ⟨p8.heap.size + 1, 0, none⟩) 1 1) [1] := litAt wlb8 1 (ok_small (by decide)) _ HS8.out
  have oli1 := (Below.refl wlb8.heap.size wlb8).alloc (Nat.le_refl _) (.cells #[.int .i64 1] 3)
  refine (refSameInts_of (c := true) _ _ [1] [1] _ _ _ (hpp_wlb8.call oli1) hli1 (by decide)).mono ?_; rintro e i1 ⟨rfl, d1⟩
  have bi1 := oli1.trans (d1.below.mono oli1.size)
  clear hli1
  have hc1_i1 := hc1_wlb8.call bi1
  have hh1_i1 := hh1_wlb8.call bi1
  have B1_i1 := B1_wlb8.call bi1
  have hh3_i1 := hh3_wlb8.call bi1
  have B3_i1 := B3_wlb8.call bi1
  have B4_i1 := B4_wlb8.call bi1
  have hu5_i1 := hu5_wlb8.call bi1
  have B5_i1 := B5_wlb8.call bi1
  have hh7_i1 := hh7_wlb8.call bi1
  have B7_i1 := B7_wlb8.call bi1
  have hpp_i1 := hpp_wlb8.call bi1
  clear hc1_wlb8 hh1_wlb8 B1_wlb8 hh3_wlb8 B3_wlb8 B4_wlb8 hu5_wlb8 B5_wlb8 hh7_wlb8 B7_wlb8 hpp_wlb8
  have b0i1 := b0wlb8.trans (bi1.mono zwlb8)
  have zi1 := b0i1.size
  have c10 := B1_i1.cell0
  have c11 := B1_i1.cell1
  have c30 := B3_i1.cell0
  have c31 := B3_i1.cell1
  have c40 := B4_i1.cell0
  have c41 := B4_i1.cell1
  have c50 := B5_i1.cell0
  have c51 := B5_i1.cell1
  have c70 := B7_i1.cell0
  have c71 := B7_i1.cell1
  obtain ⟨d3, o3, ix3, _, ld3, _, _, n3, m3⟩ := hh3_i1.idxHeadAt aHead 1 1 (sNew, 1) rfl rfl
  go_wp2_with fail
  clear c10 c11 c30 c31 c40 c41 c50 c51 c70 c71 ix3 n3 m3
  have hli2 : Sl tInt (i1.alloc (.cells #[.int .i64 7] 3)) (fun k => i1.heap.size ≤ k) (.slice (some ⟨i1.heap.size, 0, none⟩) 1 1) [7] := litAt i1 7 (ok_small (by decide)) _ rfl
  have oli2 := (Below.refl i1.heap.size i1).alloc (Nat.le_refl _) (.cells #[.int .i64 7] 3)
  refine (refSameInts_of (c := true) _ _ [7] [7] _ _ _ (hu5_i1.call oli2) hli2 (by decide)).mono ?_; rintro e i2 ⟨rfl, d2⟩
  have bi2 := oli2.trans (d2.below.mono oli2.size)
  clear hli2
  have hc1_i2 := hc1_i1.call bi2
  have hh1_i2 := hh1_i1.call bi2
  have B1_i2 := B1_i1.call bi2
  have hh3_i2 := hh3_i1.call bi2
  have B3_i2 := B3_i1.call bi2
  have B4_i2 := B4_i1.call bi2
  have hu5_i2 := hu5_i1.call bi2
  have B5_i2 := B5_i1.call bi2
  have hh7_i2 := hh7_i1.call bi2
  have B7_i2 := B7_i1.call bi2
  have hpp_i2 := hpp_i1.call bi2
  clear hc1_i1 hh1_i1 B1_i1 hh3_i1 B3_i1 B4_i1 hu5_i1 B5_i1 hh7_i1 B7_i1 hpp_i1
  have b0i2 := b0i1.trans (bi2.mono zi1)
  have zi2 := b0i2.size
  have c10 := B1_i2.cell0
  have c11 := B1_i2.cell1
  have c30 := B3_i2.cell0
  have c31 := B3_i2.cell1
  have c40 := B4_i2.cell0
  have c41 := B4_i2.cell1
  have c50 := B5_i2.cell0
  have c51 := B5_i2.cell1
  have c70 := B7_i2.cell0
  have c71 := B7_i2.cell1
  obtain ⟨d7, o7, ix7, _, ld7, _, _, n7, m7⟩ := hh7_i2.idxHeadAt aHead 1 1 (sSide, 3) rfl rfl
  go_wp2
  go_ret
  exact ⟨_, rfl, rfl, b0i2⟩

end Go.Pch
end
