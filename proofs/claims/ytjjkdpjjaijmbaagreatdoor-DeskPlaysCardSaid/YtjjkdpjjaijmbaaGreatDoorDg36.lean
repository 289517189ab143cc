/- The walks of tree.Check, Rows, Top, Root, and of TreeError and RootOf. Plain words of chapter 6: differences of trees, passing over what is the same at both ends; no program is named here. The walks of the document's differ, PatchOf, BackOf, DiffOf. What the walks of chapter 13 call. -/
import Derived.Test.YtjjkdpjjaijmbaaGreatDoorDg35
import Derived.Test.YtjjkdpjjaijmbaaGreatDoorDg6
import Derived.Test.YtjjkdpjjaijmbaaGreatDoorDg9
import Derived.Test.YtjjkdpjjaijmbaaGreatDoorDg26
import Derived.Test.YtjjkdpjjaijmbaaGreatDoorDg27
import Derived.Test.YtjjkdpjjaijmbaaGreatDoorDg13
import Derived.Test.YtjjkdpjjaijmbaaGreatDoorDg33
import Derived.Test.YtjjkdpjjaijmbaaGreatDoorDg30
import Derived.Test.YtjjkdpjjaijmbaaGreatDoorDg24
import Derived.Test.YtjjkdpjjaijmbaaGreatDoorDg31
import Derived.Test.YtjjkdpjjaijmbaaGreatDoorDg15
import Derived.Test.YtjjkdpjjaijmbaaGreatDoorDg11
import Derived.Test.YtjjkdpjjaijmbaaGreatDoorDg12
section
namespace Go.Pch
open Go.RowKit Go.Proofs
set_option maxRecDepth 100000
theorem chunkOf_nil (w : World) : Calls Tryz.prog 109 #[.slice none 0 0] w (Ret w fun r _ => r = .int .i64 1) :=
  chunkOf _ [] (fun _ => True) w (Sl.nil _ _ _) rfl
theorem treeTop (v : Value) (t : List (List (List Row))) (S : Blk) (w : World) (h : Sl tRow.slice.slice w S v t) (ht : treeErr t = 0) :
    Calls Tryz.prog 66 #[v] w (Ret w fun r _ => r = .int .i64 (topL t)) := by
  obtain ⟨ao, cap, rfl, hcap, hmax, hnil⟩ := h.shape
  unfold maxLen at hmax
  by_cases he : t = []
  · subst he
    go_enter Tryz.func66, Tryz.ntmps66
    go_wp2_with fail
    refine (chunkOf_nil w).mono ?_; rintro e w1 ⟨_, rfl, rfl, b1⟩
    go_wp2
    go_ret
    exact ⟨_, rfl, rfl, b1⟩
  · obtain ⟨init, c, hX, hc0, hcf, htop⟩ := treeErr_last ht he
    have hlen : t.length = init.length + 1 := by rw [hX]; simp
    have hget : t[t.length - 1]? = some [c] := by rw [hX]; simp
    have HT := keepBack htop
    obtain ⟨b, o, a2, c2, hix, _, hbs, hsx, hc2, hcm2, hc00⟩ := h.idxSlAt aTree ((t.length : Int) - 1) (t.length - 1) [c] 1 (by omega) hget rfl
    obtain ⟨b', o', a3, c3, hix', _, hbs', hsk0, hc3, hcm3, hc000⟩ := hsx.idxSlAt aLev 0 0 c c.length rfl rfl rfl
    have hq : ((t.length : Int) == 0) = false := by simp; omega
    have hpos : 0 < t.length := by omega
    clear hX hlen hget htop
    go_enter Tryz.func66, Tryz.ntmps66
    go_wp2_with fail
    refine (chunkOf _ c _ w hsk0 hcf).mono ?_; rintro e w1 ⟨_, rfl, rfl, b1⟩
    go_wp2
    go_ret
    exact ⟨_, rfl, by rw [HT.out]; rfl, b1⟩
theorem refRootOf (v : Value) (t : List (List (List Row))) (S : Blk) (w : World) (h : Sl tRow.slice.slice w S v t) (ht : treeErr t = 0) :
    Calls Tryz.prog 40 #[v] w (Quiet w (.int .i64 (topL t))) := by
  obtain ⟨ao, cap, rfl, hcap, hmax, hnil⟩ := h.shape
  unfold maxLen at hmax
  by_cases he : t = []
  · subst he
    go_enter Tryz.func40, Tryz.ntmps40
    go_wp2
    go_ret
    exact ⟨rfl, .refl _⟩
  · obtain ⟨init, c, hX, hc0, hcf, htop⟩ := treeErr_last ht he
    have hlen : t.length = init.length + 1 := by rw [hX]; simp
    have hget : t[t.length - 1]? = some [c] := by rw [hX]; simp
    have HT := keepBack htop
    obtain ⟨b, o, a2, c2, hix, _, hbs, hsx, hc2, hcm2, hc00⟩ := h.idxSlAt aTree ((t.length : Int) - 1) (t.length - 1) [c] 1 (by omega) hget rfl
    obtain ⟨b', o', a3, c3, hix', _, hbs', hsk0, hc3, hcm3, hc000⟩ := hsx.idxSlAt aLev 0 0 c c.length rfl rfl rfl
    have hq : ((t.length : Int) == 0) = false := by simp; omega
    have hpos : 0 < t.length := by omega
    clear hX hlen hget htop
    go_enter Tryz.func40, Tryz.ntmps40
    go_wp2_with fail
    refine (refSum _ c _ w hsk0 hcf).mono ?_; rintro e w1 ⟨rfl, d1⟩
    go_wp2
    go_ret
    exact ⟨by rw [HT.out]; rfl, d1⟩
end Go.Pch
end

section
namespace Go.Pch
end Go.Pch
end

section
namespace Go.Pch
open Go.RowKit Go.Proofs
set_option maxRecDepth 100000
theorem Src.drewD {α : Type} {E : Ty α} {w : World} {D : Blk} {ao : Option Addr} {m : List α} (h : Src E w D ao m) : Src E w.drew D ao m := by
  obtain ⟨xs, h1, h2, h3⟩ := h
  exact ⟨xs, h1.keep fun _ _ _ => rfl, h2, h3⟩
theorem refSpreadD (v : Value) (l : List Row) (S : Blk) (w : World) (h : Sl tRow w S v l) :
    Calls Tryz.prog 89 #[v] w (Ret w fun r _ => ∃ A, r = .agg A ∧ Hid (A = (tabL (valueOf l)).toArray) ∧ Hid ((Tryz.prog.info? 125).map (·.size) = some A.size) ∧ Hid (A.all (·.oneCell') = true) ∧ Hid (A.size = 100)) :=
  (refSpread v l S w h).mono fun _ _ ⟨r, he, hr, hb⟩ => ⟨r, he, ⟨_, hr, keepBack rfl, keepBack (tabSize' _), keepBack (tab_ones _), keepBack (by simp [tabL_len])⟩, hb⟩
set_option maxHeartbeats 2000000 in
theorem refDiffer (v u : Value) (a b : List Row) (S S' : Blk) (w : World) (h : Sl tRow w S v a) (g : Sl tRow w S' u b) (ha : riseB (-1) a = true) (hb : riseB (-1) b = true) :
    Calls Tryz.prog 43 #[v, u] w (Ret w fun r w' => Sl tChange w' (fun k => w.heap.size ≤ k) r (diffL (valueOf a) (valueOf b))) := by
  have HX := keepBack (valueOf_bounds ha)
  have HY := keepBack (valueOf_bounds hb)
  go_enter Tryz.func43, Tryz.ntmps43
  go_wp2_with fail
  refine (refSpreadD v a S w h).mono ?_; rintro e w1 ⟨_, rfl, ⟨A, rfl, HA, HSZ, HONE, HLN⟩, b1⟩
  have s1 := b1.size
  go_wp2_with fail
  refine (refSpreadD u b S' w1 (g.call b1)).mono ?_; rintro e w2 ⟨_, rfl, ⟨A2, rfl, HA2, HSZ2, HONE2, HLN2⟩, b2⟩
  have s2 := b2.size
  have b02 := b1.trans (b2.mono s1)
  obtain ⟨x, hx⟩ : ∃ x, valueOf a = x := ⟨_, rfl⟩
  obtain ⟨y, hy⟩ : ∃ y, valueOf b = y := ⟨_, rfl⟩
  rw [hx] at HX HA
  rw [hy] at HY HA2
  have HXX := keepBack hx
  have HYY := keepBack hy
  clear hx hy
  go_wp2_with (first
    | (refine wpList_store_row rfl 125 (.tmp 5) (.tmp 10) rfl w2.heap.size A rfl rfl _ _ (heap_alloc2_old w2 _ _) HSZ.out (by rw [HLN.out] <;> rfl) HONE.out ?_
       generalize hW : World.setRow _ _ _ = W3
       have HG3 := keepBack (show W3.heap[w2.heap.size]? = some (.cells A 125) by rw [← hW]; exact setRow_heap _ _ _ _ _ _ (heap_alloc2_old w2 _ _))
       obtain ⟨Z4, HG4, HZ4⟩ : ∃ Z : Array Value, Hid (W3.heap[w2.heap.size + 1]? = some (.cells Z 125)) ∧ Hid (Z.size = 100) := ⟨_, keepBack (by rw [← hW, setRow_other _ _ _ _ (by omega)]; exact heap_alloc2_new w2 _ _), keepBack rfl⟩
       have hb3 : Below w.heap.size w W3 := by rw [← hW]; exact below_setRow ((b02.alloc (by omega) _).alloc (by simp; omega) _) (by omega) _
       clear hW)
    | (refine wpList_store_row rfl 125 (.tmp 6) (.tmp 12) rfl (w2.heap.size + 1) A2 rfl rfl _ _ HG4.out HSZ2.out (by rw [HLN2.out, HZ4.out]) HONE2.out ?_
       generalize hW : World.setRow _ _ _ = W4
       have HT1 := keepBack (show TabAt W4 w2.heap.size x by unfold TabAt; rw [← HA.out, ← hW, setRow_other _ _ _ _ (by omega)]; exact HG3.out)
       have HT2 := keepBack (show TabAt W4 (w2.heap.size + 1) y by unfold TabAt; rw [← HA2.out, ← hW]; exact setRow_heap _ _ _ _ _ _ HG4.out)
       have hb4 : Below w.heap.size w W4 := by rw [← hW]; exact below_setRow hb3 (by omega) _
       clear hW)
    | fail)
  have hN : w2.heap.size + 2 ≤ W4.heap.size := HT2.out.lt
  generalize hNN : w2.heap.size + 2 = N at hN
  go_loopw [7, 8] (fun out i wr => ∃ (k : Nat) (acc : List Change), k ≤ 100 ∧ i = .int .i64 k ∧ Below N W4 wr ∧ Own tChange 95 wr N (fun _ => False) out acc ∧ acc.length ≤ k ∧ Hid (diffL x y = acc ++ diffFrom x y (100 - k) k)) (fun _ i _ => 100 - (intOf i).toNat)
  case atStart => exact ⟨0, [], by omega, rfl, Below.refl _ _, .nil, Nat.zero_le _, rfl⟩
  case round =>
    obtain ⟨k, acc, hk, rfl, hbr, ho, hal, HF⟩ := hrel
    have hs := hbr.size
    by_cases hlt : k < 100
    · have hcx := (hbr.cell (p := ⟨w2.heap.size, k, none⟩) (by simp; omega)).trans (HT1.out.cell k hlt)
      have hcy := (hbr.cell (p := ⟨w2.heap.size + 1, k, none⟩) (by simp; omega)).trans (HT2.out.cell k hlt)
      have hxk := HX.out (k : Int)
      have hyk := HY.out (k : Int)
      have hi0 : (0 : Int) ≤ k := by omega
      have hi9 : (k : Int) < 100 := by omega
      have HS := keepBack (show diffFrom x y (100 - k) k = if x k = y k then diffFrom x y (100 - (k + 1)) ((k : Int) + 1) else ((k : Int), x k, y k) :: diffFrom x y (100 - (k + 1)) ((k : Int) + 1) by
        rw [show 100 - k = (100 - (k + 1)) + 1 by omega, diffFrom])
      by_cases hn : x k = y k
      · have HF2 : Hid (diffL x y = acc ++ diffFrom x y (100 - (k + 1)) ((k + 1 : Nat) : Int)) := keepBack (by rw [HF.out, HS.out, if_pos hn]; simp)
        have hq : (x (k : Int) != y (k : Int)) = false := by simp [hn]
        clear hn hxk hyk
        generalize x (k : Int) = xk at *
        generalize y (k : Int) = yk at *
        go_wp2_with fail
        go_quiet (fail)
        go_wp2
        go_roundw
        case rel => exact ⟨k + 1, acc, by omega, by go_num, hbr.trans (((Drawn.refl wr).next nq).below.mono hs |>.mono (by omega)), ho.keep fun _ _ _ => rfl, by omega, HF2⟩
        case measure => simp [intOf]; omega
      · have HF2 : Hid (diffL x y = (acc ++ [((k : Int), x k, y k)]) ++ diffFrom x y (100 - (k + 1)) ((k + 1 : Nat) : Int)) := keepBack (by rw [HF.out, HS.out, if_neg hn]; simp)
        have hq : (x (k : Int) != y (k : Int)) = true := by simp [hn]
        have hone : ∀ W, tChange.rd W (fun _ => False) [.int .i64 (k : Int), .int .i64 (x k), .int .i64 (y k)] ((k : Int), x k, y k) := fun W => tChange_mk W _ _ _ _ (ok_small (by omega)) (ok_small (by omega)) (ok_small (by omega))
        clear hn
        generalize x (k : Int) = xk at *
        generalize y (k : Int) = yk at *
        have HB : acc.length + [((k : Int), xk, yk)].length ≤ 1000000000000 := by simp; omega
        go_wp2_with fail
        go_quiet (fail)
        have hbq : Below N W4 (wr.drewN nq) := hbr.trans (((Drawn.refl wr).next nq).below.mono hs |>.mono (by omega))
        replace ho : Own tChange 95 (wr.drewN nq) N (fun _ => False) _ acc := ho.keep fun _ _ _ => rfl
        replace hcx := (World.cell?_drewN wr nq _).trans hcx
        replace hcy := (World.cell?_drewN wr nq _).trans hcy
        generalize wr.drewN nq = wq at *
        have hsq := hbq.size
        have KS : ∀ W, Below N W4 W → Below N W4 W ∧ W.cell? ⟨w2.heap.size, k, none⟩ = some (.int .i64 xk) ∧ W.cell? ⟨w2.heap.size + 1, k, none⟩ = some (.int .i64 yk) := fun W hW => ⟨hW, (hW.cell (p := ⟨w2.heap.size, k, none⟩) (by simp; omega)).trans ((hbq.cell (p := ⟨w2.heap.size, k, none⟩) (by simp; omega)).symm.trans hcx), (hW.cell (p := ⟨w2.heap.size + 1, k, none⟩) (by simp; omega)).trans ((hbq.cell (p := ⟨w2.heap.size + 1, k, none⟩) (by simp; omega)).symm.trans hcy)⟩
        have hoA : ∀ o, Own tChange 95 (wq.alloc o).drew N (fun _ => False) _ acc := fun o => (ho.alloc o).keep fun _ _ _ => rfl
        have hsA : ∀ o, W4.heap.size ≤ (wq.alloc o).drew.heap.size := fun o => Nat.le_trans hsq (Nat.le_of_lt (World.size_lt_allocT _ _))
        obtain ⟨ao, cp, rfl, _, _⟩ := ho.shape
        go_wp2_with fail
        go_region_held3 (fun w' => Below N W4 w' ∧ w'.cell? ⟨w2.heap.size, k, none⟩ = some (.int .i64 xk) ∧ w'.cell? ⟨w2.heap.size + 1, k, none⟩ = some (.int .i64 yk))
          (first
            | exact KS _ hbq.drew
            | exact KS _ hbq
            | exact KS _ (by assumption)
            | exact KS _ (Below.alloc hbq.drew (Nat.le_trans hN hsq) _)
            | exact KS _ (Below.alloc hbq (Nat.le_trans hN hsq) _).drew
            | fail)
          (first
            | (refine step_grow rfl (.tmp 24) (.tmp 33) rfl aChg rfl (hoA _) rfl rfl (Src.one (hone wq) 95).drewD nofun (fun _ h => h.elim) HB (Nat.le_trans hN (hsA _)) ?_; intro v5 w5 ho5 hg5; have hb5 : Below N W4 w5 := (hbq.alloc (Nat.le_trans hN hsq) _).drew.grown hg5 (Nat.le_trans hN (hsA _)) (fun g hg => (ho.block g hg).1))
            | fail)
        go_wp2
        go_roundw
        case rel => exact ⟨k + 1, _, by omega, by go_num, hb5, ho5, by simp; omega, HF2⟩
        case measure => simp [intOf]; omega
    · obtain rfl : k = 100 := by omega
      have HF2 : Hid (diffL x y = acc) := keepBack (by rw [HF.out, show 100 - 100 = 0 from rfl, diffFrom, List.append_nil])
      go_wp2
      go_ret
      exact ⟨_, rfl, by show Sl tChange _ _ _ (diffL (valueOf a) (valueOf b)); rw [HXX.out, HYY.out, HF2.out]; exact ho.sl (fun _ h => h.elim) (fun k (hk : N ≤ k) => by omega), hb4.trans (hbr.mono (by omega))⟩
end Go.Pch
end

section
namespace Go.Pch
end Go.Pch
end
