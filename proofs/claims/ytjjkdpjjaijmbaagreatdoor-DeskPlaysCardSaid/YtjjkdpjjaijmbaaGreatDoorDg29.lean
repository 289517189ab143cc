/- The walk of the document's MergeOf. -/
import Derived.Test.YtjjkdpjjaijmbaaGreatDoorDg22
import Derived.Test.YtjjkdpjjaijmbaaGreatDoorDg27
section
namespace Go.Pch
open Go.RowKit Go.Proofs
set_option maxRecDepth 100000
theorem heap3_0 (w : World) (A B C : Obj) : (((w.alloc A).alloc B).alloc C).heap[w.heap.size]? = some A :=
  (Below.heap_alloc _ C _ (by simp; omega)).trans (heap_alloc2_old w A B)
theorem heap3_1 (w : World) (A B C : Obj) : (((w.alloc A).alloc B).alloc C).heap[w.heap.size + 1]? = some B :=
  (Below.heap_alloc _ C _ (by simp)).trans (heap_alloc2_new w A B)
theorem heap3_2 (w : World) (A B C : Obj) : (((w.alloc A).alloc B).alloc C).heap[w.heap.size + 1 + 1]? = some C := by
  have := heap_alloc2_new (w.alloc A) B C
  simpa using this
structure T3 (W : World) (g : Nat) (x y z : Int → Int) : Prop where
  tx : TabAt W g x
  ty : TabAt W (g + 1) y
  tz : TabAt W (g + 1 + 1) z
theorem T3.drewN {W : World} {g : Nat} {x y z : Int → Int} (h : T3 W g x y z) (n : Nat) : T3 (W.drewN n) g x y z := ⟨h.tx, h.ty, h.tz⟩
theorem T3.below {W W' : World} {g N : Nat} {x y z : Int → Int} (h : T3 W g x y z) (hb : Below N W W') (hN : g + 1 + 1 < N) : T3 W' g x y z :=
  ⟨(hb.block _ (by omega)).trans h.tx, (hb.block _ (by omega)).trans h.ty, (hb.block _ (by omega)).trans h.tz⟩
theorem T3.same {W : World} {g : Nat} {x y y' z : Int → Int} (h : T3 W g x y z) (e : ∀ k : Int, 0 ≤ k → k < 100 → y k = y' k) : T3 W g x y' z := ⟨h.tx, h.ty.same e, h.tz⟩
theorem T3.set {W : World} {g : Nat} {x y z : Int → Int} (h : T3 W g x y z) (k : Nat) (hk : k < 100) (v : Int) : T3 (W.setCell ⟨g + 1, k, none⟩ (.int .i64 v)) g x (fun j => if j = k then v else y j) z :=
  ⟨h.tx.other _ _ (by simp), h.ty.set k hk v, h.tz.other _ _ (by simp)⟩
set_option maxHeartbeats 8000000 in
theorem refMergeOf (v0 v1 v2 : Value) (a b c : List Row) (S : Blk) (w : World) (h0 : Sl tRow w S v0 a) (h1 : Sl tRow w S v1 b) (h2 : Sl tRow w S v2 c) :
    Calls Tryz.prog 85 #[v0, v1, v2] w (Ret w fun r w' => ∃ x y, r = .tuple #[x, y, .int .i64 (mergeP a b c).2.2] ∧ Sl tRow w' (fun k => w.heap.size ≤ k) x (mergeP a b c).1 ∧ Sl tInt w' (fun k => w.heap.size ≤ k) y (mergeP a b c).2.1) := by
  have H0 := h0
  have H1 := h1
  have H2 := h2
  obtain ⟨a0, c0, rfl, _, _, _⟩ := h0.shape
  obtain ⟨a1, c1, rfl, _, _, _⟩ := h1.shape
  obtain ⟨a2, c2, rfl, _, _, _⟩ := h2.shape
  obtain ⟨l0, l1, l2⟩ := lit3_cells w (.slice a0 a.length c0) (.slice a1 b.length c1) (.slice a2 c.length c2) 56
  go_enter Tryz.func85, Tryz.ntmps85
  go_wp2_with fail
  go_loopw [10] (fun i wr => ∃ (k : Nat), k ≤ 3 ∧ i = .int .i64 k ∧ Below w.heap.size w wr ∧ wr.cell? ⟨w.heap.size, 0, none⟩ = some (.slice a0 a.length c0) ∧ wr.cell? ⟨w.heap.size, 1, none⟩ = some (.slice a1 b.length c1) ∧ wr.cell? ⟨w.heap.size, 2, none⟩ = some (.slice a2 c.length c2) ∧ Hid (errL [a, b, c] = errL ([a, b, c].drop k))) (fun i _ => 3 - (intOf i).toNat)
  case atStart => exact ⟨0, by omega, rfl, (Below.refl _ _).alloc (Nat.le_refl _) _, l0, l1, l2, keepBack rfl⟩
  case round =>
    obtain ⟨k, hk, rfl, hb, hc0, hc1, hc2, HE⟩ := hrel
    have hs := hb.size
    clear l0 l1 l2
    have hcases : k = 0 ∨ k = 1 ∨ k = 2 ∨ k = 3 := by omega
    rcases hcases with rfl | rfl | rfl | rfl
    · have hi := lev_idx w.heap.size 3 0 (by omega)
      by_cases hz : rowsErr a = 0
      · have HZ := keepBack hz
        go_wp2_with fail
        refine (refRowsErrorOf _ a S wr (H0.call hb) hz).mono ?_; rintro e w1 ⟨rfl, d1⟩
        have b1 := d1.below
        clear hz
        go_wp2
        go_roundw
        case rel => exact ⟨1, by omega, rfl, hb.trans (b1.mono hs), (b1.cell (p := ⟨w.heap.size, 0, none⟩) (World.block_lt_of_cell? _ _ hc0)).trans hc0, (b1.cell (p := ⟨w.heap.size, 1, none⟩) (World.block_lt_of_cell? _ _ hc1)).trans hc1, (b1.cell (p := ⟨w.heap.size, 2, none⟩) (World.block_lt_of_cell? _ _ hc2)).trans hc2, keepBack (by rw [HE.out, errL_go (X := [a, b, c]) (k := 0) (l := a) rfl HZ.out])⟩
        case measure => simp [intOf]
      · have hq : (rowsErr a != 0) = true := by simp [hz]
        have hst := errL_stop (X := [a, b, c]) (k := 0) (l := a) rfl hz
        have HV := keepBack (HE.out.trans hst)
        have HP := keepBack (mergeP_bad (a := a) (b := b) (c := c) (by rw [HV.out]; exact hz))
        clear hst
        go_wp2_with fail
        refine (refRowsError _ a S wr (H0.call hb)).mono ?_; rintro e w1 ⟨rfl, d1⟩
        clear hz
        go_wp2
        go_ret3
        exact ⟨_, rfl, ⟨_, _, by rw [HP.out, HV.out]; rfl, by rw [HP.out]; exact Sl.nil _ _ _, by rw [HP.out]; exact Sl.nil _ _ _⟩, hb.trans (d1.below.mono hs)⟩
    · have hi := lev_idx w.heap.size 3 1 (by omega)
      by_cases hz : rowsErr b = 0
      · have HZ := keepBack hz
        go_wp2_with fail
        refine (refRowsErrorOf _ b S wr (H1.call hb) hz).mono ?_; rintro e w1 ⟨rfl, d1⟩
        have b1 := d1.below
        clear hz
        go_wp2
        go_roundw
        case rel => exact ⟨2, by omega, rfl, hb.trans (b1.mono hs), (b1.cell (p := ⟨w.heap.size, 0, none⟩) (World.block_lt_of_cell? _ _ hc0)).trans hc0, (b1.cell (p := ⟨w.heap.size, 1, none⟩) (World.block_lt_of_cell? _ _ hc1)).trans hc1, (b1.cell (p := ⟨w.heap.size, 2, none⟩) (World.block_lt_of_cell? _ _ hc2)).trans hc2, keepBack (by rw [HE.out, errL_go (X := [a, b, c]) (k := 1) (l := b) rfl HZ.out])⟩
        case measure => simp [intOf]
      · have hq : (rowsErr b != 0) = true := by simp [hz]
        have hst := errL_stop (X := [a, b, c]) (k := 1) (l := b) rfl hz
        have HV := keepBack (HE.out.trans hst)
        have HP := keepBack (mergeP_bad (a := a) (b := b) (c := c) (by rw [HV.out]; exact hz))
        clear hst
        go_wp2_with fail
        refine (refRowsError _ b S wr (H1.call hb)).mono ?_; rintro e w1 ⟨rfl, d1⟩
        clear hz
        go_wp2
        go_ret3
        exact ⟨_, rfl, ⟨_, _, by rw [HP.out, HV.out]; rfl, by rw [HP.out]; exact Sl.nil _ _ _, by rw [HP.out]; exact Sl.nil _ _ _⟩, hb.trans (d1.below.mono hs)⟩
    · have hi := lev_idx w.heap.size 3 2 (by omega)
      by_cases hz : rowsErr c = 0
      · have HZ := keepBack hz
        go_wp2_with fail
        refine (refRowsErrorOf _ c S wr (H2.call hb) hz).mono ?_; rintro e w1 ⟨rfl, d1⟩
        have b1 := d1.below
        clear hz
        go_wp2
        go_roundw
        case rel => exact ⟨3, by omega, rfl, hb.trans (b1.mono hs), (b1.cell (p := ⟨w.heap.size, 0, none⟩) (World.block_lt_of_cell? _ _ hc0)).trans hc0, (b1.cell (p := ⟨w.heap.size, 1, none⟩) (World.block_lt_of_cell? _ _ hc1)).trans hc1, (b1.cell (p := ⟨w.heap.size, 2, none⟩) (World.block_lt_of_cell? _ _ hc2)).trans hc2, keepBack (by rw [HE.out, errL_go (X := [a, b, c]) (k := 2) (l := c) rfl HZ.out])⟩
        case measure => simp [intOf]
      · have hq : (rowsErr c != 0) = true := by simp [hz]
        have hst := errL_stop (X := [a, b, c]) (k := 2) (l := c) rfl hz
        have HV := keepBack (HE.out.trans hst)
        have HP := keepBack (mergeP_bad (a := a) (b := b) (c := c) (by rw [HV.out]; exact hz))
        clear hst
        go_wp2_with fail
        refine (refRowsError _ c S wr (H2.call hb)).mono ?_; rintro e w1 ⟨rfl, d1⟩
        clear hz
        go_wp2
        go_ret3
        exact ⟨_, rfl, ⟨_, _, by rw [HP.out, HV.out]; rfl, by rw [HP.out]; exact Sl.nil _ _ _, by rw [HP.out]; exact Sl.nil _ _ _⟩, hb.trans (d1.below.mono hs)⟩
    · have herr : errL [a, b, c] = 0 := HE.out
      obtain ⟨ra, rb, rc⟩ := errL_three herr
      obtain ⟨la, ra'⟩ := ok_rise ra
      obtain ⟨lb, rb'⟩ := ok_rise rb
      obtain ⟨lc, rc'⟩ := ok_rise rc
      have HPM := keepBack (mergeP_many herr)
      have HPO := keepBack (mergeP_ok herr)
      obtain ⟨wo, rfl⟩ : ∃ wo : World, wo = wr := ⟨_, rfl⟩
      have HX := keepBack (valueOf_bounds ra')
      have HY := keepBack (valueOf_bounds rb')
      have HZ := keepBack (valueOf_bounds rc')
      clear hc0 hc1 hc2 herr ra rb rc ra' rb' rc'
      go_wp2_with fail
      refine (refSpreadA _ a S wo (H0.call hb)).mono ?_; rintro e w1 ⟨_, rfl, ⟨A, rfl, HA, HSZ, HONE, HLN⟩, b1⟩
      have b01 := hb.trans (b1.mono hs)
      have s1 := b01.size
      go_wp2_with fail
      refine (refSpreadA _ b S w1 (H1.call b01)).mono ?_; rintro e w2 ⟨_, rfl, ⟨A2, rfl, HA2, HSZ2, HONE2, HLN2⟩, b2⟩
      have b02 := b01.trans (b2.mono s1)
      have s2 := b02.size
      go_wp2_with fail
      refine (refSpreadA _ c S w2 (H2.call b02)).mono ?_; rintro e w3 ⟨_, rfl, ⟨A3, rfl, HA3, HSZ3, HONE3, HLN3⟩, b3⟩
      have b03 := b02.trans (b3.mono s2)
      have s3 := b03.size
      go_wp2_with (first
        | (refine wpList_store_row rfl 125 (.tmp 12) (.tmp 37) rfl w3.heap.size A rfl rfl _ _ (heap3_0 w3 _ _ _) HSZ.out (by rw [HLN.out] <;> rfl) HONE.out ?_
           generalize hW : World.setRow _ _ _ = W4
           have HG0 := keepBack (show W4.heap[w3.heap.size]? = some (.cells A 125) by rw [← hW]; exact setRow_heap _ _ _ _ _ _ (heap3_0 w3 _ _ _))
           obtain ⟨Z1, HG1, HZ1⟩ : ∃ Z : Array Value, Hid (W4.heap[w3.heap.size + 1]? = some (.cells Z 125)) ∧ Hid (Z.size = 100) := ⟨_, keepBack (by rw [← hW, setRow_other _ _ _ _ (by omega)]; exact heap3_1 w3 _ _ _), keepBack rfl⟩
           obtain ⟨Z2, HG2, HZ2⟩ : ∃ Z : Array Value, Hid (W4.heap[w3.heap.size + 1 + 1]? = some (.cells Z 125)) ∧ Hid (Z.size = 100) := ⟨_, keepBack (by rw [← hW, setRow_other _ _ _ _ (by omega)]; exact heap3_2 w3 _ _ _), keepBack rfl⟩
           have hb4 : Below w.heap.size w W4 := by rw [← hW]; exact below_setRow (((b03.alloc (by omega) _).alloc (by simp; omega) _).alloc (by simp; omega) _) (by omega) _
           clear hW)
        | (refine wpList_store_row rfl 125 (.tmp 13) (.tmp 39) rfl (w3.heap.size + 1) A2 rfl rfl _ _ HG1.out HSZ2.out (by rw [HLN2.out, HZ1.out]) HONE2.out ?_
           generalize hW : World.setRow _ _ _ = W5
           have HK0 := keepBack (show W5.heap[w3.heap.size]? = some (.cells A 125) by rw [← hW, setRow_other _ _ _ _ (by omega)]; exact HG0.out)
           have HK1 := keepBack (show W5.heap[w3.heap.size + 1]? = some (.cells A2 125) by rw [← hW]; exact setRow_heap _ _ _ _ _ _ HG1.out)
           have HK2 := keepBack (show W5.heap[w3.heap.size + 1 + 1]? = some (.cells Z2 125) by rw [← hW, setRow_other _ _ _ _ (by omega)]; exact HG2.out)
           have hb5 : Below w.heap.size w W5 := by rw [← hW]; exact below_setRow hb4 (by omega) _
           clear hW)
        | (refine wpList_store_row rfl 125 (.tmp 14) (.tmp 41) rfl (w3.heap.size + 1 + 1) A3 rfl rfl _ _ HK2.out HSZ3.out (by rw [HLN3.out, HZ2.out]) HONE3.out ?_
           generalize hW : World.setRow _ _ _ = W6
           have HT1 := keepBack (show TabAt W6 w3.heap.size (valueOf a) by unfold TabAt; rw [← HA.out, ← hW, setRow_other _ _ _ _ (by omega)]; exact HK0.out)
           have HT2 := keepBack (show TabAt W6 (w3.heap.size + 1) (valueOf b) by unfold TabAt; rw [← HA2.out, ← hW, setRow_other _ _ _ _ (by omega)]; exact HK1.out)
           have HT3 := keepBack (show TabAt W6 (w3.heap.size + 1 + 1) (valueOf c) by unfold TabAt; rw [← HA3.out, ← hW]; exact setRow_heap _ _ _ _ _ _ HK2.out)
           have hb6 : Below w.heap.size w W6 := by rw [← hW]; exact below_setRow hb5 (by omega) _
           clear hW)
        | fail)
      have hT6 : T3 W6 w3.heap.size (valueOf a) (valueOf b) (valueOf c) := ⟨HT1.out, HT2.out, HT3.out⟩
      have hN6 := HT3.out.lt
      clear HT1 HT2 HT3 HK0 HK1 HK2 HG0 HG1 HG2 HZ1 HZ2 HA HA2 HA3 HSZ HSZ2 HSZ3 HONE HONE2 HONE3 HLN HLN2 HLN3 hb4 hb5
      have HMER := keepBack (show mergeL a b c = folded (mergeT (valueOf a) (valueOf b) (valueOf c)) from rfl)
      have HCLA := keepBack (show clashL a b c = clashFrom (valueOf a) (valueOf b) (valueOf c) 100 0 from rfl)
      generalize valueOf a = x at *
      generalize valueOf b = y at *
      generalize valueOf c = z at *
      go_loopw [15, 16] (fun clash i wr => ∃ (k : Nat) (G : List Int), k ≤ 100 ∧ i = .int .i64 k ∧ Below w.heap.size w wr ∧ w3.heap.size + 3 ≤ wr.heap.size ∧ T3 wr w3.heap.size x (fun j => if j < (k : Int) then mergeT x y z j else y j) z ∧ Own tInt 3 wr (w3.heap.size + 3) (fun _ => False) clash G ∧ G.length ≤ k ∧ Hid (clashFrom x y z 100 0 = G ++ clashFrom x y z (100 - k) k)) (fun _ i _ => 100 - (intOf i).toNat)
      case atStart => exact ⟨0, [], by omega, rfl, hb6, hN6, hT6.same fun k h0 _ => by rw [if_neg (by simpa using h0)], .nil, Nat.zero_le _, keepBack rfl⟩
      case round =>
        obtain ⟨k, G, hk', rfl, hbr, hN', hT, ho, hG, HF⟩ := hrel
        have hsr := hbr.size
        by_cases hlt : k < 100
        · have hi0 : (0 : Int) ≤ k := by omega
          have hi9 : (k : Int) < 100 := by omega
          have hcx := hT.tx.cell k hlt
          have hcy := hT.ty.cell k hlt
          have hcz := hT.tz.cell k hlt
          have hbl : Below (w3.heap.size + 3) wr wr := Below.refl _ _
          have HM := keepBack (show mergeT x y z k = if y k = z k then y k else if y k = x k then z k else y k from rfl)
          have HC := keepBack (show clashFrom x y z (100 - k) k = if y k ≠ z k ∧ y k ≠ x k ∧ z k ≠ x k then (k : Int) :: clashFrom x y z (100 - (k + 1)) ((k : Int) + 1) else clashFrom x y z (100 - (k + 1)) ((k : Int) + 1) by
            rw [show 100 - k = (100 - (k + 1)) + 1 by omega, clashFrom])
          have HBX := HX.out (k : Int)
          have HBY := HY.out (k : Int)
          have HBZ := HZ.out (k : Int)
          simp only [show ¬ (k : Int) < k by omega, if_false] at hcy
          have hstay : ∀ W, T3 W w3.heap.size x (fun j => if j < (k : Int) then mergeT x y z j else y j) z → mergeT x y z k = y k → T3 W w3.heap.size x (fun j => if j < ((k + 1 : Nat) : Int) then mergeT x y z j else y j) z := fun W hW he => hW.same fun j h0 h1 => by
            show (if j < (k : Int) then mergeT x y z j else y j) = (if j < ((k + 1 : Nat) : Int) then mergeT x y z j else y j)
            by_cases hj : j < (k : Int)
            · rw [if_pos hj, if_pos (by omega)]
            · rw [if_neg hj]
              by_cases hj2 : j < ((k + 1 : Nat) : Int)
              · rw [if_pos hj2, show j = (k : Int) by omega, he]
              · rw [if_neg hj2]
          obtain ⟨xk, hxk⟩ : ∃ n, x (k : Int) = n := ⟨_, rfl⟩
          obtain ⟨yk, hyk⟩ : ∃ n, y (k : Int) = n := ⟨_, rfl⟩
          obtain ⟨zk, hzk⟩ : ∃ n, z (k : Int) = n := ⟨_, rfl⟩
          have HXK := keepBack hxk
          have HYK := keepBack hyk
          have HZK := keepBack hzk
          rw [hxk] at hcx
          rw [hyk] at hcy
          rw [hzk] at hcz
          rw [hxk] at HBX
          rw [hyk] at HBY
          rw [hzk] at HBZ
          clear hxk hyk hzk
          by_cases e1 : yk = zk
          · have q1 : (yk == zk) = true := by simpa using e1
            have HM' : Hid (mergeT x y z k = y k) := keepBack (by rw [HM.out, HYK.out, HZK.out, if_pos e1])
            have HF2 : Hid (clashFrom x y z 100 0 = G ++ clashFrom x y z (100 - (k + 1)) ((k + 1 : Nat) : Int)) := keepBack (by rw [HF.out, HC.out, if_neg (by rw [HYK.out, HZK.out]; exact fun h => h.1 e1)]; simp)
            clear e1 HM HC HF
            go_wp2_with fail
            go_quiet (fail)
            replace hbr := hbr.trans (((Drawn.refl wr).next nq).below.mono hsr)
            replace hT := hT.drewN nq
            replace ho : Own tInt 3 (wr.drewN nq) (w3.heap.size + 3) (fun _ => False) _ G := ho.keep fun _ _ _ => rfl
            replace hN' : w3.heap.size + 3 ≤ (wr.drewN nq).heap.size := hN'
            generalize wr.drewN nq = wq1 at *
            replace hcx := hT.tx.cell k hlt
            replace hcy := hT.ty.cell k hlt
            replace hcz := hT.tz.cell k hlt
            simp only [show ¬ (k : Int) < k by omega, if_false, HXK.out, HYK.out, HZK.out] at hcx hcy hcz
            replace hsr := hbr.size
            go_wp2
            go_roundw
            case rel => exact ⟨k + 1, G, by omega, by go_num, hbr, hN', hstay _ hT HM'.out, ho, by omega, HF2⟩
            case measure => simp [intOf]; omega
          · have q1 : (yk == zk) = false := by simpa using e1
            by_cases e2 : yk = xk
            · have q2 : (yk == xk) = true := by simpa using e2
              have HM' : Hid (mergeT x y z k = zk) := keepBack (by rw [HM.out, HYK.out, HZK.out, HXK.out, if_neg e1, if_pos e2])
              have HF2 : Hid (clashFrom x y z 100 0 = G ++ clashFrom x y z (100 - (k + 1)) ((k + 1 : Nat) : Int)) := keepBack (by rw [HF.out, HC.out, if_neg (by rw [HYK.out, HXK.out]; exact fun h => h.2.1 e2)]; simp)
              clear e1 e2 HM HC HF
              go_wp2_with fail
              go_quiet (fail)
              replace hbr := hbr.trans (((Drawn.refl wr).next nq).below.mono hsr)
              replace hT := hT.drewN nq
              replace ho : Own tInt 3 (wr.drewN nq) (w3.heap.size + 3) (fun _ => False) _ G := ho.keep fun _ _ _ => rfl
              replace hN' : w3.heap.size + 3 ≤ (wr.drewN nq).heap.size := hN'
              generalize wr.drewN nq = wq1 at *
              replace hcx := hT.tx.cell k hlt
              replace hcy := hT.ty.cell k hlt
              replace hcz := hT.tz.cell k hlt
              simp only [show ¬ (k : Int) < k by omega, if_false, HXK.out, HYK.out, HZK.out] at hcx hcy hcz
              replace hsr := hbr.size
              go_wp2_with fail
              go_quiet (fail)
              replace hbr := hbr.trans (((Drawn.refl wq1).next nq).below.mono hsr)
              replace hT := hT.drewN nq
              replace ho : Own tInt 3 (wq1.drewN nq) (w3.heap.size + 3) (fun _ => False) _ G := ho.keep fun _ _ _ => rfl
              replace hN' : w3.heap.size + 3 ≤ (wq1.drewN nq).heap.size := hN'
              generalize wq1.drewN nq = wq2 at *
              replace hcx := hT.tx.cell k hlt
              replace hcy := hT.ty.cell k hlt
              replace hcz := hT.tz.cell k hlt
              simp only [show ¬ (k : Int) < k by omega, if_false, HXK.out, HYK.out, HZK.out] at hcx hcy hcz
              replace hsr := hbr.size
              have hfy := hT.ty.free k
              have HTS := keepBack (hT.set k hlt zk)
              go_wp2
              go_roundw
              case rel =>
                refine ⟨k + 1, G, by omega, by go_num, hbr.setCell (by simp; omega) _, by simpa using hN', ?_, ho.keep fun j hj _ => ?_, by omega, HF2⟩
                · refine HTS.out.same fun j h0 h1 => ?_
                  by_cases hj : j = (k : Int)
                  · rw [if_pos hj, hj, if_pos (by omega), HM'.out]
                  · rw [if_neg hj]
                    by_cases hj2 : j < (k : Int)
                    · rw [if_pos hj2, if_pos (by omega)]
                    · rw [if_neg hj2, if_neg (by omega)]
                · refine heap_setCell_other _ _ _ _ ?_
                  rcases hj with hj | hj
                  · exact hj.elim
                  · have := (ho.block j hj).1; simp; omega
              case measure => simp [intOf]; omega
            · have q2 : (yk == xk) = false := by simpa using e2
              have HM' : Hid (mergeT x y z k = y k) := keepBack (by rw [HM.out, HYK.out, HZK.out, HXK.out, if_neg e1, if_neg e2])
              by_cases e3 : zk = xk
              · have q3 : (zk != xk) = false := by simpa using e3
                have HF2 : Hid (clashFrom x y z 100 0 = G ++ clashFrom x y z (100 - (k + 1)) ((k + 1 : Nat) : Int)) := keepBack (by rw [HF.out, HC.out, if_neg (by rw [HZK.out, HXK.out]; exact fun h => h.2.2 e3)]; simp)
                clear e1 e2 e3 HM HC HF
                go_wp2_with fail
                go_quiet (fail)
                replace hbr := hbr.trans (((Drawn.refl wr).next nq).below.mono hsr)
                replace hT := hT.drewN nq
                replace ho : Own tInt 3 (wr.drewN nq) (w3.heap.size + 3) (fun _ => False) _ G := ho.keep fun _ _ _ => rfl
                replace hN' : w3.heap.size + 3 ≤ (wr.drewN nq).heap.size := hN'
                generalize wr.drewN nq = wq1 at *
                replace hcx := hT.tx.cell k hlt
                replace hcy := hT.ty.cell k hlt
                replace hcz := hT.tz.cell k hlt
                simp only [show ¬ (k : Int) < k by omega, if_false, HXK.out, HYK.out, HZK.out] at hcx hcy hcz
                replace hsr := hbr.size
                go_wp2_with fail
                go_quiet (fail)
                replace hbr := hbr.trans (((Drawn.refl wq1).next nq).below.mono hsr)
                replace hT := hT.drewN nq
                replace ho : Own tInt 3 (wq1.drewN nq) (w3.heap.size + 3) (fun _ => False) _ G := ho.keep fun _ _ _ => rfl
                replace hN' : w3.heap.size + 3 ≤ (wq1.drewN nq).heap.size := hN'
                generalize wq1.drewN nq = wq2 at *
                replace hcx := hT.tx.cell k hlt
                replace hcy := hT.ty.cell k hlt
                replace hcz := hT.tz.cell k hlt
                simp only [show ¬ (k : Int) < k by omega, if_false, HXK.out, HYK.out, HZK.out] at hcx hcy hcz
                replace hsr := hbr.size
                go_wp2_with fail
                go_quiet (fail)
                replace hbr := hbr.trans (((Drawn.refl wq2).next nq).below.mono hsr)
                replace hT := hT.drewN nq
                replace ho : Own tInt 3 (wq2.drewN nq) (w3.heap.size + 3) (fun _ => False) _ G := ho.keep fun _ _ _ => rfl
                replace hN' : w3.heap.size + 3 ≤ (wq2.drewN nq).heap.size := hN'
                generalize wq2.drewN nq = wq3 at *
                replace hcx := hT.tx.cell k hlt
                replace hcy := hT.ty.cell k hlt
                replace hcz := hT.tz.cell k hlt
                simp only [show ¬ (k : Int) < k by omega, if_false, HXK.out, HYK.out, HZK.out] at hcx hcy hcz
                replace hsr := hbr.size
                go_wp2
                go_roundw
                case rel => exact ⟨k + 1, G, by omega, by go_num, hbr, hN', hstay _ hT HM'.out, ho, by omega, HF2⟩
                case measure => simp [intOf]; omega
              · have q3 : (zk != xk) = true := by simpa using e3
                have HF2 : Hid (clashFrom x y z 100 0 = (G ++ [(k : Int)]) ++ clashFrom x y z (100 - (k + 1)) ((k + 1 : Nat) : Int)) := keepBack (by rw [HF.out, HC.out, if_pos (by rw [HYK.out, HZK.out, HXK.out]; exact ⟨e1, e2, e3⟩)]; simp)
                clear e1 e2 e3 HM HC HF
                go_wp2_with fail
                go_quiet (fail)
                replace hbr := hbr.trans (((Drawn.refl wr).next nq).below.mono hsr)
                replace hT := hT.drewN nq
                replace ho : Own tInt 3 (wr.drewN nq) (w3.heap.size + 3) (fun _ => False) _ G := ho.keep fun _ _ _ => rfl
                replace hN' : w3.heap.size + 3 ≤ (wr.drewN nq).heap.size := hN'
                generalize wr.drewN nq = wq1 at *
                replace hcx := hT.tx.cell k hlt
                replace hcy := hT.ty.cell k hlt
                replace hcz := hT.tz.cell k hlt
                simp only [show ¬ (k : Int) < k by omega, if_false, HXK.out, HYK.out, HZK.out] at hcx hcy hcz
                replace hsr := hbr.size
                go_wp2_with fail
                go_quiet (fail)
                replace hbr := hbr.trans (((Drawn.refl wq1).next nq).below.mono hsr)
                replace hT := hT.drewN nq
                replace ho : Own tInt 3 (wq1.drewN nq) (w3.heap.size + 3) (fun _ => False) _ G := ho.keep fun _ _ _ => rfl
                replace hN' : w3.heap.size + 3 ≤ (wq1.drewN nq).heap.size := hN'
                generalize wq1.drewN nq = wq2 at *
                replace hcx := hT.tx.cell k hlt
                replace hcy := hT.ty.cell k hlt
                replace hcz := hT.tz.cell k hlt
                simp only [show ¬ (k : Int) < k by omega, if_false, HXK.out, HYK.out, HZK.out] at hcx hcy hcz
                replace hsr := hbr.size
                go_wp2_with fail
                go_quiet (fail)
                replace hbr := hbr.trans (((Drawn.refl wq2).next nq).below.mono hsr)
                replace hT := hT.drewN nq
                replace ho : Own tInt 3 (wq2.drewN nq) (w3.heap.size + 3) (fun _ => False) _ G := ho.keep fun _ _ _ => rfl
                replace hN' : w3.heap.size + 3 ≤ (wq2.drewN nq).heap.size := hN'
                generalize wq2.drewN nq = wq3 at *
                replace hcx := hT.tx.cell k hlt
                replace hcy := hT.ty.cell k hlt
                replace hcz := hT.tz.cell k hlt
                simp only [show ¬ (k : Int) < k by omega, if_false, HXK.out, HYK.out, HZK.out] at hcx hcy hcz
                replace hsr := hbr.size
                obtain ⟨ag, cg, rfl, _, _⟩ := ho.shape
                have hgb := ho.block
                have HB2 : G.length + [(k : Int)].length ≤ 1000000000000 := by simp; omega
                have hbN : Below (w3.heap.size + 3) wq3 (wq3.alloc (Obj.cells #[Value.int IntKind.i64 (k : Int)] 3)) := (Below.refl _ _).alloc hN' _
                go_wp2_with (first
                  | (at_builtin; refine wpList_grow rfl (.tmp 75) (.tmp 77) rfl aIntS rfl (ho.alloc _) rfl rfl (Src.one (cs := [_]) (tInt_mk wq3 (fun _ => False) (k : Int) (ok_small (by omega))) _) nofun (fun _ h => h.elim) HB2 (Nat.le_trans hN' (Nat.le_of_lt (World.size_lt_alloc _ _))) ?_; intro v5 w5 ho5 hg5)
                  | fail)
                have hb5 : Below (w3.heap.size + 3) wq3 w5 := hbN.grown hg5 (Nat.le_trans hN' (Nat.le_of_lt (World.size_lt_alloc _ _))) (fun g hg => (hgb g hg).1)
                go_wp2
                go_roundw
                case rel => exact ⟨k + 1, _, by omega, by go_num, hbr.trans (hb5.mono (by omega)), Nat.le_trans hN' hb5.size, hstay _ (hT.below hb5 (by omega)) HM'.out, ho5, by simp; omega, HF2⟩
                case measure => simp [intOf]; omega
        · obtain rfl : k = 100 := by omega
          have HF2 : Hid (clashFrom x y z 100 0 = G) := keepBack (by rw [HF.out, show 100 - 100 = 0 from rfl, clashFrom, List.append_nil])
          have hT' := hT.same (y' := mergeT x y z) fun j h0 h1 => by rw [if_pos (by omega)]
          have HT := keepBack hT'.ty
          unfold TabAt at HT
          have HBD := keepBack (mergeT_bounds (x := x) HY.out HZ.out)
          clear hT hT' hG
          rw [HF2.out] at HCLA
          go_wp2_with (first
            | (refine wpList_load_row rfl 125 (.tmp 13) rfl (w3.heap.size + 1) rfl _ _ _ _ HT.out Tryz.underlying125 rfl (tabSize' _) ?_)
            | fail)
          refine (refFolded _ wr HBD.out).mono ?_; rintro e w7 ⟨v7, rfl, h7, b7⟩
          rw [← HMER.out] at h7
          have hb7 := hbr.trans (b7.mono hsr)
          have h7' := h7.mono (S' := fun k => w.heap.size ≤ k) fun k hk _ => Nat.le_trans hsr hk
          have hsl := (ho.call b7).sl (D := fun k => w.heap.size ≤ k) (fun _ h => h.elim) (fun k hk => by omega)
          rw [← HCLA.out] at hsl
          clear h7 ho
          generalize mergeL a b c = M at *
          generalize clashL a b c = G at *
          obtain ⟨ax, cx, rfl, _, _, _⟩ := h7'.shape
          obtain ⟨ay, cy, rfl, _, _, _⟩ := hsl.shape
          by_cases h4 : 40 < M.length
          · have HP := keepBack (HPM.out h4)
            go_wp2
            go_ret3
            exact ⟨_, rfl, ⟨_, _, by rw [HP.out]; rfl, by rw [HP.out]; exact Sl.nil _ _ _, by rw [HP.out]; exact Sl.nil _ _ _⟩, hb7⟩
          · have HP := keepBack (HPO.out h4)
            go_wp2
            go_ret3
            exact ⟨_, rfl, ⟨_, _, by rw [HP.out]; rfl, by rw [HP.out]; exact h7', by rw [HP.out]; exact hsl⟩, hb7⟩
end Go.Pch
end
