/- The walks of repoBegun and the law RepoTells. -/
import Derived.Test.YtklgejafblocjaaRepH
namespace Go.Pch
open Go.RowKit Go.Proofs
theorem below_on {W0 W W' : World} (a : Below W0.heap.size W0 W) (b : Below W.heap.size W W') : Below W0.heap.size W0 W' := a.trans (b.mono a.size)

set_option maxRecDepth 100000

/-- A shop whose two heads lie in a block of their own. -/
def ShopAt (w : World) (B : Nat) (vc : Value) (g : Nat) (s t : ByteArray) : Prop := B ≤ g ∧ g < w.heap.size ∧ w.heap[g]? = some (.cells #[.string s, .int .i64 3, .string t, .int .i64 1] 76) ∧ Sl tCommit w (fun k => B ≤ k ∧ k ≠ g) vc crossL
theorem ShopAt.rp {w : World} {B : Nat} {vc : Value} {g : Nat} {s t : ByteArray} (h : ShopAt w B vc g s t) (hs : s.size ≤ 1000) (ht : t.size ≤ 1000) : Rp w (fun k => B ≤ k) (.agg #[vc, .slice (some ⟨g, 0, none⟩) 2 2]) (crossL, H3 s t) :=
  ⟨_, _, rfl, h.2.2.2.mono fun k hk _ => hk.1, headsTwo h.2.2.1 h.1 (ok_small (by decide)) (ok_small (by decide)) hs ht⟩
theorem ShopAt.call {w w' : World} {B : Nat} {vc : Value} {g : Nat} {s t : ByteArray} (h : ShopAt w B vc g s t) (hb : Below w.heap.size w w') : ShopAt w' B vc g s t :=
  ⟨h.1, Nat.lt_of_lt_of_le h.2.1 hb.size, (hb.block _ h.2.1).trans h.2.2.1, h.2.2.2.call hb⟩
theorem shopAt (w : World) : Calls Try.prog 57 #[] w (Ret w fun r w' => ∃ ac cc g, r = .agg #[.slice ac crossL.length cc, .slice (some ⟨g, 0, none⟩) 2 2] ∧ ShopAt w' w.heap.size (.slice ac crossL.length cc) g (ByteArray.mk #[109, 97, 105, 110]) (ByteArray.mk #[115, 105, 100, 101])) := by
  refine (lawShop w).mono ?_
  rintro e w1 ⟨_, rfl, ⟨vc, g, rfl, h1, h2, h3, h4⟩, b1⟩
  obtain ⟨ac, cc, rfl, _, _, _⟩ := h4.shape
  exact ⟨_, rfl, ⟨ac, cc, g, rfl, h1, h2, h3, h4⟩, b1⟩

theorem ShopAt.put {w : World} {B : Nat} {vc : Value} {g : Nat} {s t : ByteArray} (h : ShopAt w B vc g s t) (i : Nat) (u : ByteArray) {cs : Array Value} (hcs : (#[.string s, .int .i64 3, .string t, .int .i64 1] : Array Value).setIfInBounds i (.string u) = cs) :
    (w.setCell ⟨g, i, none⟩ (.string u)).heap[g]? = some (.cells cs 76) ∧ Sl tCommit (w.setCell ⟨g, i, none⟩ (.string u)) (fun k => B ≤ k ∧ k ≠ g) vc crossL := by
  refine ⟨?_, h.2.2.2.keep fun k hk _ => heap_setCell_other _ _ _ _ (by simpa using hk.2)⟩
  have e : w.setCell ⟨g, i, none⟩ (.string u) = w.setRow g _ := setCell_eq_setRow w g i _ _ _ _ h.2.2.1
  rw [e, ← hcs]
  exact setRow_heap _ _ _ _ _ _ h.2.2.1
theorem ShopAt.put1 {w : World} {B : Nat} {vc : Value} {g : Nat} {s t : ByteArray} (h : ShopAt w B vc g s t) (u : ByteArray) : ShopAt (w.setCell ⟨g, 2, none⟩ (.string u)) B vc g s u := by
  obtain ⟨h1, h2⟩ := h.put 2 u rfl
  exact ⟨h.1, by simpa using h.2.1, h1, h2⟩
theorem ShopAt.put0 {w : World} {B : Nat} {vc : Value} {g : Nat} {s t : ByteArray} (h : ShopAt w B vc g s t) (u : ByteArray) : ShopAt (w.setCell ⟨g, 0, none⟩ (.string u)) B vc g u t := by
  obtain ⟨h1, h2⟩ := h.put 0 u rfl
  exact ⟨h.1, by simpa using h.2.1, h1, h2⟩
theorem ShopAt.cells {w : World} {B : Nat} {vc : Value} {g : Nat} {s t : ByteArray} (h : ShopAt w B vc g s t) : w.cell? ⟨g, 0, none⟩ = some (.string s) ∧ w.cell? ⟨g, 2, none⟩ = some (.string t) ∧ ∀ i, w.frozen? ⟨g, i, none⟩ = false :=
  ⟨by rw [World.cell?, h.2.2.1]; rfl, by rw [World.cell?, h.2.2.1]; rfl, fun i => frozen_of_row w g i _ _ h.2.2.1⟩

theorem oneI (w : World) (C : Blk) (n : Int) (hn : i64ok n) : Each tInt w C [[.int .i64 n]] [n] := Each.one _ _ ⟨rfl, hn⟩
theorem lit3210 (w : World) : Sl tInt (w.alloc (.cells #[.int .i64 3, .int .i64 2, .int .i64 1, .int .i64 0] 3)) (fun k => w.heap.size ≤ k) (.slice (some ⟨w.heap.size, 0, none⟩) 4 4) [3, 2, 1, 0] :=
  (Own.lit (E := tInt) (e := 3) (B := w.heap.size) (C := fun _ => False) ((((oneI w _ 3 (ok_small (by decide))).app (oneI w _ 2 (ok_small (by decide)))).app (oneI w _ 1 (ok_small (by decide)))).app (oneI w _ 0 (ok_small (by decide)))) rfl (by simp [maxLen]) (Nat.le_refl _)).sl (fun _ h => h.elim) (fun _ h => h)

set_option maxHeartbeats 8000000 in
theorem repoBegun (w : World) : Calls Try.prog 31 #[] w (Ret w fun r _ => r = .bool true) := by
  go_enter Try.func31, Try.ntmps31
  go_wp2_with fail
  refine (shopAt _).mono ?_; rintro e w1 ⟨_, rfl, ⟨a1, c1, g1, rfl, h1⟩, b1⟩
  have s1 := b1.size
  go_wp2_with fail
  refine (repoHead_of _ _ _ _ w1 (h1.rp (by decide) (by decide)) headSide).mono ?_; rintro e w2 ⟨_, rfl, rfl, b2⟩
  have b02 := b1.trans (b2.mono s1)
  have s2 := b02.size
  go_wp2_with fail
  refine (shopAt _).mono ?_; rintro e w3 ⟨_, rfl, ⟨a3, c3, g3, rfl, h3⟩, b3⟩
  have b03 := b02.trans (b3.mono s2)
  have s3 := b03.size
  go_wp2_with fail
  refine (repoLog _ _ (ByteArray.mk #[109, 97, 105, 110]) _ w3 (h3.rp (by decide) (by decide))).mono ?_; rintro e w4 ⟨_, rfl, ⟨y4, rfl, h4⟩, b4⟩
  rw [logMain] at h4 ⊢
  have b04 := b03.trans (b4.mono s3)
  have s4 := b04.size
  go_wp2_with fail
  refine (shopAt _).mono ?_; rintro e w5 ⟨_, rfl, ⟨a5, c5, g5, rfl, h5⟩, b5⟩
  have b05 := b04.trans (b5.mono s4)
  have s5 := b05.size
  have h45 := h4.call b5
  go_wp2_with fail
  refine (repoHead_of _ _ _ _ w5 (h5.rp (by decide) (by decide)) headNone).mono ?_; rintro e w6 ⟨_, rfl, rfl, b6⟩
  have b06 := b05.trans (b6.mono s5)
  have s6 := b06.size
  have h46 := h45.call b6
  clear h1 h3 h4 h5 h45
  go_wp2_with fail
  refine (shopAt _).mono ?_; rintro e w7 ⟨_, rfl, ⟨a7, c7, g7, rfl, h7⟩, b7⟩
  have b07 := b06.trans (b7.mono s6)
  have s7 := b7.size
  have s07 := b07.size
  have h47 := h46.call b7
  have oX := (Below.refl w7.heap.size w7).alloc (Nat.le_refl _) (.cells #[.slice a7 crossL.length c7, .slice (some ⟨g7, 0, none⟩) 2 2] 43)
  have h7X := h7.call oX
  obtain ⟨cx0, cx2, fx⟩ := h7X.cells
  have fx2 := fx 2
  have oZX := (Below.refl (w7.setCell ⟨g7, 2, none⟩ (.string (ByteArray.mk #[109, 97, 105, 110]))).heap.size (w7.setCell ⟨g7, 2, none⟩ (.string (ByteArray.mk #[109, 97, 105, 110])))).alloc (Nat.le_refl _) (.cells #[.slice a7 crossL.length c7, .slice (some ⟨g7, 0, none⟩) 2 2] 43)
  have hX := (h7.put1 (ByteArray.mk #[109, 97, 105, 110])).call oZX
  have hg7 : w6.heap.size ≤ g7 := h7.1
  have hg7' : g7 < w7.heap.size := h7.2.1
  have kX : ((w7.setCell ⟨g7, 2, none⟩ (.string (ByteArray.mk #[109, 97, 105, 110]))).alloc (.cells #[.slice a7 crossL.length c7, .slice (some ⟨g7, 0, none⟩) 2 2] 43)).heap[w7.heap.size]? = some (.cells #[.slice a7 crossL.length c7, .slice (some ⟨g7, 0, none⟩) 2 2] 43) := by
    have := heap_alloc_new (w7.setCell ⟨g7, 2, none⟩ (.string (ByteArray.mk #[109, 97, 105, 110]))) (.cells #[.slice a7 crossL.length c7, .slice (some ⟨g7, 0, none⟩) 2 2] 43)
    rwa [show (w7.setCell ⟨g7, 2, none⟩ (.string (ByteArray.mk #[109, 97, 105, 110]))).heap.size = w7.heap.size by simp] at this
  have bX : Below w6.heap.size w6 ((w7.setCell ⟨g7, 2, none⟩ (.string (ByteArray.mk #[109, 97, 105, 110]))).alloc (.cells #[.slice a7 crossL.length c7, .slice (some ⟨g7, 0, none⟩) 2 2] 43)) := (b7.setCell (by simpa using hg7) _).alloc (by simp; omega) _
  have sX : ((w7.setCell ⟨g7, 2, none⟩ (.string (ByteArray.mk #[109, 97, 105, 110]))).alloc (.cells #[.slice a7 crossL.length c7, .slice (some ⟨g7, 0, none⟩) 2 2] 43)).heap.size = w7.heap.size + 1 := by simp
  have h4X := h46.call bX
  obtain ⟨wX, hwX⟩ : ∃ wX, wX = (w7.setCell ⟨g7, 2, none⟩ (.string (ByteArray.mk #[109, 97, 105, 110]))).alloc (.cells #[.slice a7 crossL.length c7, .slice (some ⟨g7, 0, none⟩) 2 2] 43) := ⟨_, rfl⟩
  rw [← hwX] at hX kX bX h4X sX
  have HWX := keepBack hwX
  have b0X := b06.trans (bX.mono s6)
  clear hwX h7 h47 h46
  go_wp2_with fail
  rw [← HWX.out]
  clear cx0 cx2 fx fx2 h7X
  refine (shopAt _).mono ?_; rintro e w8 ⟨_, rfl, ⟨a8, c8, g8, rfl, h8⟩, b8⟩
  have b08 := b0X.trans (b8.mono (by omega))
  have s8 := b8.size
  have h48 := h4X.call b8
  have hX8 := hX.call b8
  have kX8 := (b8.block _ (by omega)).trans kX
  have oY := (Below.refl w8.heap.size w8).alloc (Nat.le_refl _) (.cells #[.slice a8 crossL.length c8, .slice (some ⟨g8, 0, none⟩) 2 2] 43)
  have h8Y := h8.call oY
  obtain ⟨cy0, cy2, fy⟩ := h8Y.cells
  have fy0 := fy 0
  have oZY := (Below.refl (w8.setCell ⟨g8, 0, none⟩ (.string (ByteArray.mk #[77, 97, 105, 110]))).heap.size (w8.setCell ⟨g8, 0, none⟩ (.string (ByteArray.mk #[77, 97, 105, 110])))).alloc (Nat.le_refl _) (.cells #[.slice a8 crossL.length c8, .slice (some ⟨g8, 0, none⟩) 2 2] 43)
  have hY := (h8.put0 (ByteArray.mk #[77, 97, 105, 110])).call oZY
  have hg8 : wX.heap.size ≤ g8 := h8.1
  have hg8' : g8 < w8.heap.size := h8.2.1
  have kY : ((w8.setCell ⟨g8, 0, none⟩ (.string (ByteArray.mk #[77, 97, 105, 110]))).alloc (.cells #[.slice a8 crossL.length c8, .slice (some ⟨g8, 0, none⟩) 2 2] 43)).heap[w8.heap.size]? = some (.cells #[.slice a8 crossL.length c8, .slice (some ⟨g8, 0, none⟩) 2 2] 43) := by
    have := heap_alloc_new (w8.setCell ⟨g8, 0, none⟩ (.string (ByteArray.mk #[77, 97, 105, 110]))) (.cells #[.slice a8 crossL.length c8, .slice (some ⟨g8, 0, none⟩) 2 2] 43)
    rwa [show (w8.setCell ⟨g8, 0, none⟩ (.string (ByteArray.mk #[77, 97, 105, 110]))).heap.size = w8.heap.size by simp] at this
  have bY : Below wX.heap.size wX ((w8.setCell ⟨g8, 0, none⟩ (.string (ByteArray.mk #[77, 97, 105, 110]))).alloc (.cells #[.slice a8 crossL.length c8, .slice (some ⟨g8, 0, none⟩) 2 2] 43)) := (b8.setCell (by simpa using hg8) _).alloc (by simp; omega) _
  have sY : ((w8.setCell ⟨g8, 0, none⟩ (.string (ByteArray.mk #[77, 97, 105, 110]))).alloc (.cells #[.slice a8 crossL.length c8, .slice (some ⟨g8, 0, none⟩) 2 2] 43)).heap.size = w8.heap.size + 1 := by simp
  have h4Y := h4X.call bY
  have hXY := hX.call bY
  have kXY := (bY.block _ (by omega)).trans kX
  obtain ⟨wY, hwY⟩ : ∃ wY, wY = (w8.setCell ⟨g8, 0, none⟩ (.string (ByteArray.mk #[77, 97, 105, 110]))).alloc (.cells #[.slice a8 crossL.length c8, .slice (some ⟨g8, 0, none⟩) 2 2] 43) := ⟨_, rfl⟩
  rw [← hwY] at hY kY bY h4Y sY hXY kXY
  have HWY := keepBack hwY
  have b0Y := b0X.trans (bY.mono (by omega))
  clear hwY h8 h48 h4X hX8 kX8 hX kX
  go_wp2_with fail
  rw [← HWY.out]
  have sYa := b0Y.size
  clear cy0 cy2 fy fy0 h8Y
  have KX : Hid (∀ W, Below wY.heap.size wY W → W.cell? ⟨w7.heap.size, 0, none⟩ = some (.slice a7 crossL.length c7) ∧ W.cell? ⟨w7.heap.size, 1, none⟩ = some (.slice (some ⟨g7, 0, none⟩) 2 2) ∧ W.cell? ⟨w8.heap.size, 0, none⟩ = some (.slice a8 crossL.length c8) ∧ W.cell? ⟨w8.heap.size, 1, none⟩ = some (.slice (some ⟨g8, 0, none⟩) 2 2)) := keepBack fun W hW => by
    have e1 := (hW.block w7.heap.size (by omega)).trans kXY
    have e2 := (hW.block w8.heap.size (by omega)).trans kY
    exact ⟨by rw [World.cell?, e1]; rfl, by rw [World.cell?, e1]; rfl, by rw [World.cell?, e2]; rfl, by rw [World.cell?, e2]; rfl⟩
  refine (shopAt _).mono ?_; rintro e w9 ⟨_, rfl, ⟨a9, c9, g9, rfl, h9⟩, b9⟩
  have s9 := b9.size
  go_wp2_with fail
  refine (repoCheck_of _ _ _ w9 (h9.rp (by decide) (by decide)) okShop).mono ?_; rintro e w10 ⟨_, rfl, rfl, b10⟩
  have bY10 := b9.trans (b10.mono s9)
  have s10 := bY10.size
  go_wp2_with fail
  refine (repoBegin _).mono ?_; rintro e w11 ⟨v11, rfl, h11, b11⟩
  have bY11 := bY10.trans (b11.mono s10)
  have s11 := bY11.size
  obtain ⟨vc11, vh11, rfl, hc11, hh11⟩ := h11
  go_wp2_with fail
  refine (repoCheck_of _ _ _ w11 ⟨_, _, rfl, hc11, hh11⟩ okBegin).mono ?_; rintro e w12 ⟨_, rfl, rfl, b12⟩
  have bY12 := bY11.trans (b12.mono s11)
  have s12 := bY12.size
  obtain ⟨q0, q1, q2, q3⟩ := KX.out w12 bY12
  go_wp2_with fail
  refine (repoCheck_of _ _ _ w12 ((hXY.call bY12).rp (by decide) (by decide)) badTwice).mono ?_; rintro e w13 ⟨_, rfl, rfl, b13⟩
  have bY13 := bY12.trans (b13.mono s12)
  have s13 := bY13.size
  clear q0 q1 q2 q3
  obtain ⟨q0, q1, q2, q3⟩ := KX.out w13 bY13
  go_wp2_with fail
  refine (repoCheck_of _ _ _ w13 ((hY.call bY13).rp (by decide) (by decide)) badName).mono ?_; rintro e w14 ⟨_, rfl, rfl, b14⟩
  have bY14 := bY13.trans (b14.mono s13)
  have s14 := bY14.size
  clear q0 q1 q2 q3
  go_wp2_with fail
  have oI := (Below.refl w14.heap.size w14).alloc (Nat.le_refl _) (.cells #[.int .i64 3, .int .i64 2, .int .i64 1, .int .i64 0] 3)
  refine (refSameInts_of (c := true) y4 _ _ _ _ _ _ ((h4Y.call bY14).call oI) (lit3210 w14) (by decide)).mono ?_; rintro e w15 ⟨rfl, d15⟩
  have bY15 := (bY14.trans (oI.mono s14)).trans (d15.below.mono (by simp; omega))
  have s15 := bY15.size
  go_wp2_with fail
  refine (repoBegin _).mono ?_; rintro e w16 ⟨v16, rfl, h16, b16⟩
  have bY16 := bY15.trans (b16.mono s15)
  have s16 := bY16.size
  obtain ⟨vc16, vh16, rfl, hc16, hh16⟩ := h16
  go_wp2_with fail
  refine (refBegin _).mono ?_; rintro e w17 ⟨v17, rfl, h17, b17⟩
  have bY17 := bY16.trans (b17.mono s16)
  have s17 := bY17.size
  obtain ⟨vc17, vh17, rfl, hc17, hh17⟩ := h17
  go_wp2_with fail
  refine (refSameRepos _ _ ([([], [])], [((ByteArray.mk #[109, 97, 105, 110]), 0)]) ([([], [])], [((ByteArray.mk #[109, 97, 105, 110]), 0)]) _ _ w17 ⟨_, _, rfl, hc16.call b17, hh16.call b17⟩ ⟨_, _, rfl, hc17, hh17⟩).mono ?_; rintro e w18 ⟨_, rfl, rfl, b18⟩
  rw [decide_eq_true rfl, decide_eq_true rfl]
  go_wp2
  go_ret
  exact ⟨_, rfl, rfl, b0Y.trans ((bY17.trans (b18.mono s17)).mono sYa)⟩

set_option maxHeartbeats 2000000 in
theorem lawRepoTells (v : Value) (r : Repo) (s : ByteArray) (w : World) (h : Rp w (fun _ => True) v r) :
    Calls Try.prog 8 #[v, .string s] w (Ret w fun x _ => x = .bool true) := by
  have hR := h
  obtain ⟨vc, vh, rfl, hc, hh⟩ := h
  obtain ⟨ac, cc, rfl, _, _, _⟩ := hc.shape
  obtain ⟨ah, ch, rfl, _, _, _⟩ := hh.shape
  generalize r.1.length = n1 at *
  generalize r.2.length = n2 at *
  obtain ⟨wA, hwA⟩ : ∃ wA, wA = w.alloc (.cells #[.slice ac n1 cc, .slice ah n2 ch] 43) := ⟨_, rfl⟩
  have bA : Below w.heap.size w wA := by rw [hwA]; exact (Below.refl _ _).alloc (Nat.le_refl _) _
  have sA : wA.heap.size = w.heap.size + 1 := by rw [hwA]; simp
  have KB : Hid (∀ W, Below wA.heap.size wA W → W.cell? ⟨w.heap.size, 0, none⟩ = some (.slice ac n1 cc) ∧ W.cell? ⟨w.heap.size, 1, none⟩ = some (.slice ah n2 ch)) := keepBack fun W hW => by
    have k0 : wA.cell? ⟨w.heap.size, 0, none⟩ = some (.slice ac n1 cc) := by rw [hwA]; simp
    have k1 : wA.cell? ⟨w.heap.size, 1, none⟩ = some (.slice ah n2 ch) := by rw [hwA]; simp
    exact ⟨(hW.cell (p := ⟨w.heap.size, 0, none⟩) (by simp; omega)).trans k0, (hW.cell (p := ⟨w.heap.size, 1, none⟩) (by simp; omega)).trans k1⟩
  have HWA := keepBack hwA
  clear hwA
  have hA := hR.call bA
  obtain ⟨q0, q1⟩ := KB.out wA (Below.refl _ _)
  go_enter Try.func8, Try.ntmps8
  go_wp2_with fail
  rw [← HWA.out]
  refine (repoHead _ r s _ wA hA).mono ?_; rintro e w1 ⟨_, rfl, rfl, b1⟩
  have s1 := b1.size
  have h1 := hA.call b1
  clear q0 q1
  obtain ⟨q0, q1⟩ := KB.out w1 b1
  go_wp2_with fail
  refine (repoLog _ r s _ w1 h1).mono ?_; rintro e w2 ⟨_, rfl, ⟨y2, rfl, k2⟩, b2⟩
  have b02 := b1.trans (b2.mono s1)
  have s2 := b02.size
  have h2 := h1.call b2
  clear q0 q1
  obtain ⟨q0, q1⟩ := KB.out w2 b02
  go_wp2_with fail
  refine (refHeadOf _ r s _ w2 h2).mono ?_; rintro e w3 ⟨_, rfl, rfl, b3⟩
  have b03 := b02.trans (b3.mono s2)
  have s3 := b03.size
  have h3 := h2.call b3
  have k3 := k2.call b3
  clear q0 q1
  obtain ⟨q0, q1⟩ := KB.out w3 b03
  go_wp2_with fail
  refine (refLogOf _ r s _ w3 h3).mono ?_; rintro e w4 ⟨_, rfl, ⟨y4, rfl, l4⟩, b4⟩
  have b04 := b03.trans (b4.mono s3)
  have s4 := b04.size
  have h4 := h3.call b4
  have k4 := k3.call b4
  generalize headP r s = p at *
  generalize logP r s = q at *
  clear q0 q1
  go_wp2_with fail
  have KS : ∀ W, Below w4.heap.size w4 W → Below w4.heap.size w4 W ∧ W.cell? ⟨w.heap.size, 0, none⟩ = some (.slice ac n1 cc) ∧ W.cell? ⟨w.heap.size, 1, none⟩ = some (.slice ah n2 ch) := fun W hW => ⟨hW, KB.out W (b04.trans (hW.mono s4))⟩
  go_region_held3 (fun W => Below w4.heap.size w4 W ∧ W.cell? ⟨w.heap.size, 0, none⟩ = some (.slice ac n1 cc) ∧ W.cell? ⟨w.heap.size, 1, none⟩ = some (.slice ah n2 ch))
    (first
      | exact KS _ (by assumption)
      | exact KS _ (Below.refl _ _)
      | exact KS _ (Below.refl _ _).drew
      | exact KS _ (Below.drew (by assumption))
      | fail)
    (first
      | (go_at_call 31; refine (repoBegun _).mono ?_; rintro e w5 ⟨_, rfl, rfl, b5⟩; have c5 : Below w4.heap.size w4 w5 := (Below.refl w4.heap.size w4).drew.trans b5)
      | (go_at_call 32; refine (repoCheck _ r _ _ (h4.call (by assumption))).mono ?_; rintro e w6 ⟨_, rfl, rfl, b6⟩; have c6 : Below w4.heap.size w4 w6 := below_on (by assumption) b6)
      | (go_at_call 21; refine (refRepoError _ r _ _ (h4.call (by assumption))).mono ?_; rintro e w7 ⟨_, rfl, rfl, b7⟩; have c7 : Below w4.heap.size w4 w7 := below_on (by assumption) b7)
      | (go_at_call 18; refine (refSameInts_of (c := true) y2 y4 _ _ _ _ _ (k4.call (by assumption)) (l4.call (by assumption)) (by simp)).mono ?_; rintro e w8 ⟨rfl, d8⟩; have c8 : Below w4.heap.size w4 w8 := below_on (by assumption) d8.below)
      | fail)
  go_wp2
  go_ret
  exact ⟨_, rfl, rfl, (bA.trans (b04.mono (by omega))).trans (c8.mono (by omega))⟩

end Go.Pch
