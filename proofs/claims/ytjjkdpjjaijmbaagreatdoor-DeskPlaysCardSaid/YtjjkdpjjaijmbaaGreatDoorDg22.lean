/- The walk of three.Merge. -/
import Derived.Test.YtjjkdpjjaijmbaaGreatDoorDg17
import Derived.Test.YtjjkdpjjaijmbaaGreatDoorDg7
import Derived.Test.YtjjkdpjjaijmbaaGreatDoorDg21
section
namespace Go.Pch
open Go.RowKit Go.Proofs
set_option maxRecDepth 100000
theorem World.size_lt_alloc (w : World) (o : Obj) : w.heap.size < (w.alloc o).heap.size := by simp
theorem betweenR (v u : Value) (a b : List Row) (S S' : Blk) (w : World) (h : Sl tRow w S v a) (g : Sl tRow w S' u b) (ha : fineB a = true) (hb : fineB b = true) (hl : a.length + b.length ≤ 1000000) :
    Calls Tryz.prog 73 #[v, u] w (Ret w fun r w' => Sl tChange w' (fun k => w.heap.size ≤ k) r (betw a b)) :=
  (between v u a b S S' w h g ha hb hl).mono fun _ _ ⟨r, he, ho, hb⟩ => ⟨r, he, ho.sl (fun _ h => h.elim) (fun _ h => h), hb⟩
theorem lev_idx (g n : Nat) (k : Nat) (hk : k < n) (W : World) : Sem.run Tryz.prog (Instr.indexAt 122 (.slice (some ⟨g, 0, none⟩) n n) (.int .i64 (k : Nat))) W = .ok (.pointer (some ⟨g, k, none⟩)) W := by
  have := run_idx aLev (b := g) (o := 0) (len := n) (cap := n) (k : Int) k rfl hk W
  rwa [show tRow.slice.size = 1 from rfl, Nat.mul_one, Nat.zero_add] at this
theorem lit3_cells (w : World) (a b c : Value) (t : TypeId) : (w.alloc (.cells #[a, b, c] t)).cell? ⟨w.heap.size, 0, none⟩ = some a ∧ (w.alloc (.cells #[a, b, c] t)).cell? ⟨w.heap.size, 1, none⟩ = some b ∧ (w.alloc (.cells #[a, b, c] t)).cell? ⟨w.heap.size, 2, none⟩ = some c := by
  refine ⟨?_, ?_, ?_⟩ <;> (rw [World.cell?, heap_alloc_new]; rfl)
theorem mergeP_bad {a b c : List Row} (h : errL [a, b, c] ≠ 0) : mergeP a b c = ([], [], errL [a, b, c]) := by rw [mergeP, if_neg h]
theorem mergeP_many {a b c : List Row} (h : errL [a, b, c] = 0) (hm : 40 < (mergeL a b c).length) : mergeP a b c = ([], [], 2) := by rw [mergeP, if_pos h, if_pos hm]
theorem mergeP_ok {a b c : List Row} (h : errL [a, b, c] = 0) (hm : ¬ 40 < (mergeL a b c).length) : mergeP a b c = (mergeL a b c, clashL a b c, 0) := by rw [mergeP, if_pos h, if_neg hm]
theorem aIntS : At Tryz.prog tInt 57 3 := At.mk' Tryz.underlying57 (z := .int .i64 0) (size := 1) (bytes := 8) (by kernel_rfl) rfl rfl (by decide)
theorem Own.base {α : Type} {E : Ty α} {e : TypeId} {w : World} {B B' : Nat} {C : Blk} {v : Value} {l : List α} (h : Own E e w B C v l) (hB : B' ≤ B) : Own E e w B' C v l := by
  obtain ⟨xs, ⟨e1, e2⟩, hE⟩ := h
  refine ⟨xs, ⟨e1, ?_⟩, hE⟩
  rcases e2 with e2 | ⟨g, cap, cur, a1, a2, a3⟩
  · exact .inl e2
  · exact .inr ⟨g, cap, cur, a1, by omega, a3⟩
theorem Own.apart {α β : Type} {E : Ty α} {F : Ty β} {e f : TypeId} {w : World} {B B' : Nat} {C C' : Blk} {v u : Value} {l : List α} {m : List β} (h : Own E e w B C v l) (g : Own F f w B' C' u m) (hef : e ≠ f) : ∀ k, v.ownBlock = some k → u.ownBlock ≠ some k := by
  obtain ⟨xs, ⟨_, e2⟩, _⟩ := h
  obtain ⟨ys, ⟨_, f2⟩, _⟩ := g
  intro k hk hk'
  rcases e2 with ⟨rfl, _⟩ | ⟨g1, cap, cur, rfl, _, a3, _⟩
  · simp [Value.ownBlock] at hk
  · rcases f2 with ⟨rfl, _⟩ | ⟨g2, cap', cur', rfl, _, b3, _⟩
    · simp [Value.ownBlock] at hk'
    · simp only [Value.ownBlock, Option.some.injEq] at hk hk'
      subst hk
      subst hk'
      rw [a3] at b3
      simp at b3
      exact hef b3.2
theorem tInt_mk (w : World) (S : Blk) (a : Int) (ha : i64ok a) : tInt.rd w S [.int .i64 a] a := ⟨rfl, ha⟩
set_option maxHeartbeats 4000000 in
theorem threeMerge (v0 v1 v2 : Value) (a b c : List Row) (S : Blk) (w : World) (h0 : Sl tRow w S v0 a) (h1 : Sl tRow w S v1 b) (h2 : Sl tRow w S v2 c) :
    Calls Tryz.prog 142 #[v0, v1, v2] w (Ret w fun r w' => ∃ x y, r = .tuple #[x, y, .int .i64 (mergeP a b c).2.2] ∧ Sl tRow w' (fun k => w.heap.size ≤ k) x (mergeP a b c).1 ∧ Sl tInt w' (fun k => w.heap.size ≤ k) y (mergeP a b c).2.1) := by
  have H0 := h0
  have H1 := h1
  have H2 := h2
  obtain ⟨a0, c0, rfl, _, _, _⟩ := h0.shape
  obtain ⟨a1, c1, rfl, _, _, _⟩ := h1.shape
  obtain ⟨a2, c2, rfl, _, _, _⟩ := h2.shape
  obtain ⟨l0, l1, l2⟩ := lit3_cells w (.slice a0 a.length c0) (.slice a1 b.length c1) (.slice a2 c.length c2) 56
  have hmm := @run_makeMap Tryz.prog
  go_enter Tryz.func142, Tryz.ntmps142
  go_wp2_with fail
  go_loopw [25] (fun i wr => ∃ (k : Nat), k ≤ 3 ∧ i = .int .i64 k ∧ Below w.heap.size w wr ∧ wr.cell? ⟨w.heap.size, 0, none⟩ = some (.slice a0 a.length c0) ∧ wr.cell? ⟨w.heap.size, 1, none⟩ = some (.slice a1 b.length c1) ∧ wr.cell? ⟨w.heap.size, 2, none⟩ = some (.slice a2 c.length c2) ∧ Hid (errL [a, b, c] = errL ([a, b, c].drop k))) (fun i _ => 3 - (intOf i).toNat)
  case atStart => exact ⟨0, by omega, rfl, (Below.refl _ _).alloc (Nat.le_refl _) _, l0, l1, l2, keepBack rfl⟩
  case round =>
    obtain ⟨k, hk, rfl, hb, hc0, hc1, hc2, HE⟩ := hrel
    have hs := hb.size
    clear l0 l1 l2
    have hcases : k = 0 ∨ k = 1 ∨ k = 2 ∨ k = 3 := by omega
    rcases hcases with rfl | rfl | rfl | rfl
    · have hi := lev_idx w.heap.size 3 0 (by omega)
      by_cases hz : rowsErr a = 0
      · have HZ := keepBack hz
        go_wp2_with fail
        refine (rowsCheckOf _ a S wr (H0.call hb) hz).mono ?_; rintro e w1 ⟨_, rfl, rfl, b1⟩
        clear hz
        go_wp2
        go_roundw
        case rel => exact ⟨1, by omega, rfl, hb.trans (b1.mono hs), (b1.cell (p := ⟨w.heap.size, 0, none⟩) (World.block_lt_of_cell? _ _ hc0)).trans hc0, (b1.cell (p := ⟨w.heap.size, 1, none⟩) (World.block_lt_of_cell? _ _ hc1)).trans hc1, (b1.cell (p := ⟨w.heap.size, 2, none⟩) (World.block_lt_of_cell? _ _ hc2)).trans hc2, keepBack (by rw [HE.out, errL_go (X := [a, b, c]) (k := 0) (l := a) rfl HZ.out])⟩
        case measure => simp [intOf]
      · have hq : (rowsErr a != 0) = true := by simp [hz]
        have hst := errL_stop (X := [a, b, c]) (k := 0) (l := a) rfl hz
        have HV := keepBack (HE.out.trans hst)
        have HP := keepBack (mergeP_bad (a := a) (b := b) (c := c) (by rw [HV.out]; exact hz))
        clear hst
        go_wp2_with fail
        refine (rowsCheck _ a S wr (H0.call hb)).mono ?_; rintro e w1 ⟨_, rfl, rfl, b1⟩
        clear hz
        go_wp2
        go_ret3
        exact ⟨_, rfl, ⟨_, _, by rw [HP.out, HV.out]; rfl, by rw [HP.out]; exact Sl.nil _ _ _, by rw [HP.out]; exact Sl.nil _ _ _⟩, hb.trans (b1.mono hs)⟩
    · have hi := lev_idx w.heap.size 3 1 (by omega)
      by_cases hz : rowsErr b = 0
      · have HZ := keepBack hz
        go_wp2_with fail
        refine (rowsCheckOf _ b S wr (H1.call hb) hz).mono ?_; rintro e w1 ⟨_, rfl, rfl, b1⟩
        clear hz
        go_wp2
        go_roundw
        case rel => exact ⟨2, by omega, rfl, hb.trans (b1.mono hs), (b1.cell (p := ⟨w.heap.size, 0, none⟩) (World.block_lt_of_cell? _ _ hc0)).trans hc0, (b1.cell (p := ⟨w.heap.size, 1, none⟩) (World.block_lt_of_cell? _ _ hc1)).trans hc1, (b1.cell (p := ⟨w.heap.size, 2, none⟩) (World.block_lt_of_cell? _ _ hc2)).trans hc2, keepBack (by rw [HE.out, errL_go (X := [a, b, c]) (k := 1) (l := b) rfl HZ.out])⟩
        case measure => simp [intOf]
      · have hq : (rowsErr b != 0) = true := by simp [hz]
        have hst := errL_stop (X := [a, b, c]) (k := 1) (l := b) rfl hz
        have HV := keepBack (HE.out.trans hst)
        have HP := keepBack (mergeP_bad (a := a) (b := b) (c := c) (by rw [HV.out]; exact hz))
        clear hst
        go_wp2_with fail
        refine (rowsCheck _ b S wr (H1.call hb)).mono ?_; rintro e w1 ⟨_, rfl, rfl, b1⟩
        clear hz
        go_wp2
        go_ret3
        exact ⟨_, rfl, ⟨_, _, by rw [HP.out, HV.out]; rfl, by rw [HP.out]; exact Sl.nil _ _ _, by rw [HP.out]; exact Sl.nil _ _ _⟩, hb.trans (b1.mono hs)⟩
    · have hi := lev_idx w.heap.size 3 2 (by omega)
      by_cases hz : rowsErr c = 0
      · have HZ := keepBack hz
        go_wp2_with fail
        refine (rowsCheckOf _ c S wr (H2.call hb) hz).mono ?_; rintro e w1 ⟨_, rfl, rfl, b1⟩
        clear hz
        go_wp2
        go_roundw
        case rel => exact ⟨3, by omega, rfl, hb.trans (b1.mono hs), (b1.cell (p := ⟨w.heap.size, 0, none⟩) (World.block_lt_of_cell? _ _ hc0)).trans hc0, (b1.cell (p := ⟨w.heap.size, 1, none⟩) (World.block_lt_of_cell? _ _ hc1)).trans hc1, (b1.cell (p := ⟨w.heap.size, 2, none⟩) (World.block_lt_of_cell? _ _ hc2)).trans hc2, keepBack (by rw [HE.out, errL_go (X := [a, b, c]) (k := 2) (l := c) rfl HZ.out])⟩
        case measure => simp [intOf]
      · have hq : (rowsErr c != 0) = true := by simp [hz]
        have hst := errL_stop (X := [a, b, c]) (k := 2) (l := c) rfl hz
        have HV := keepBack (HE.out.trans hst)
        have HP := keepBack (mergeP_bad (a := a) (b := b) (c := c) (by rw [HV.out]; exact hz))
        clear hst
        go_wp2_with fail
        refine (rowsCheck _ c S wr (H2.call hb)).mono ?_; rintro e w1 ⟨_, rfl, rfl, b1⟩
        clear hz
        go_wp2
        go_ret3
        exact ⟨_, rfl, ⟨_, _, by rw [HP.out, HV.out]; rfl, by rw [HP.out]; exact Sl.nil _ _ _, by rw [HP.out]; exact Sl.nil _ _ _⟩, hb.trans (b1.mono hs)⟩
    · have herr : errL [a, b, c] = 0 := HE.out
      obtain ⟨ra, rb, rc⟩ := errL_three herr
      obtain ⟨la, ra'⟩ := ok_rise ra
      obtain ⟨lb, rb'⟩ := ok_rise rb
      obtain ⟨lc, rc'⟩ := ok_rise rc
      have HPM := keepBack (mergeP_many herr)
      have HPO := keepBack (mergeP_ok herr)
      have HROW := keepBack (merge_rows ra' rb' rc' (f := mapOf (betw a b)) rfl)
      have HCL := keepBack (merge_clash ra' rb' rc' (f := mapOf (betw a b)) rfl)
      have HRB := keepBack rb'
      have HF2 := keepBack (show fineC (-1) (betw a c) = true by rw [betw_diff ra' rc']; exact diffL_fine (valueOf_bounds ra') (valueOf_bounds rc'))
      have HF1 := keepBack (show fineC (-1) (betw a b) = true by rw [betw_diff ra' rb']; exact diffL_fine (valueOf_bounds ra') (valueOf_bounds rb'))
      obtain ⟨wo, rfl⟩ : ∃ wo : World, wo = wr := ⟨_, rfl⟩
      have f0 := ok_fine ra
      have f1 := ok_fine rb
      have f2 := ok_fine rc
      clear hc0 hc1 hc2 herr ra rb rc ra' rb' rc'
      go_wp2_with fail
      refine (betweenR _ _ a b _ _ (wo.alloc (.map #[] 0)) ((H0.call hb).call ((Below.refl _ _).alloc (Nat.le_refl _) _)) ((H1.call hb).call ((Below.refl _ _).alloc (Nat.le_refl _) _)) f0 f1 (by omega)).mono ?_; rintro e w2 ⟨x2, rfl, hd, b2⟩
      have hm := MapI.made wo
      have hm2 := hm.keep (b2.block _ hm.lt)
      have bw2 : Below w.heap.size w w2 := (hb.alloc hs _).trans (b2.mono (by simp; omega))
      have s2 := bw2.size
      have hml := hm.lt
      have HS2 := keepBack (show wo.heap.size < w2.heap.size from Nat.lt_of_lt_of_le hml b2.size)
      have HD1 := keepBack (fineC_all HF1.out)
      have hdl := fineC_len HF1.out (by omega)
      generalize betw a b = D1 at *
      obtain ⟨ax, cx, rfl, hcx, hmx, _⟩ := hd.shape
      unfold maxLen at hmx
      clear b2 hm hml
      go_wp2_with fail
      go_loopw [40] (fun i wr => ∃ (k : Nat), k ≤ D1.length ∧ i = .int .i64 k ∧ Hid (w2.grownBy wr (some wo.heap.size)) ∧ MapI wr wo.heap.size k (mapOf (D1.take k))) (fun i _ => D1.length - (intOf i).toNat)
      case atStart => exact ⟨0, Nat.zero_le _, rfl, keepBack (World.grownBy.refl _ _), hm2⟩
      case round =>
        obtain ⟨k, hk', rfl, hgr, hmk⟩ := hrel
        have hbv : Below w.heap.size w wr := bw2.grown hgr.out s2 (fun g hg => by obtain rfl := Option.some.inj hg; exact hs)
        have hsv := hbv.size
        have hs2v := hgr.out.size
        have hdv := hd.keep (w' := wr) fun k (hS : _ ≤ k) hlt => hgr.out.block k hlt fun e => by
          have := Option.some.inj e
          simp at hS
          omega
        by_cases hlt : k < D1.length
        · obtain ⟨p, o, hix, _, hbs, ok1, ok2, ok3, hc0, hc1, hc2⟩ := hdv.idxChg aChg k k rfl hlt
          have hxb := HD1.out D1[k] (List.getElem_mem hlt)
          have hxv : -1 ≤ D1[k].2.2 ∧ D1[k].2.2 ≤ 996 := by simpa [valB] using hxb.2.2.2.1
          have HN := keepBack (show D1.take (k + 1) = D1.take k ++ [D1[k]] from List.take_succ_eq_append_getElem hlt)
          generalize D1[k] = x at *
          have T := Cell3.alloc wr 95 x.1 x.2.1 x.2.2
          have hmW := hmk.kept (World.grownBy_alloc wr (Obj.cells #[Value.int IntKind.i64 x.1, Value.int IntKind.i64 x.2.1, Value.int IntKind.i64 x.2.2] 95) none) (by simp)
          have hgW := World.grownBy_alloc wr (Obj.cells #[Value.int IntKind.i64 x.1, Value.int IntKind.i64 x.2.1, Value.int IntKind.i64 x.2.2] 95) (some wo.heap.size)
          clear hxb
          go_wp2_with (first
            | (at_mapUpdate; refine wpList_mapI rfl _ _ _ rfl rfl hmW (by omega) rfl rfl ok1 (ok_small (by omega)) ?_; intro w5 hm5 hg5)
            | fail)
          go_wp2
          go_roundw
          case rel =>
            refine ⟨k + 1, by omega, by go_num, keepBack ((hgr.out.trans hgW).trans hg5), ?_⟩
            rw [HN.out, mapOf_snoc]
            have e2 : x.2.2 + 1 + 1 = x.2.2 + 2 := by omega
            simpa [e2] using hm5
          case measure => simp [intOf]; omega
        · have HE := keepBack (show mapOf (D1.take k) = mapOf D1 by rw [List.take_of_length_le (by omega)])
          rw [HE.out] at hmk
          generalize mapOf D1 = f at *
          have HMU := keepBack hmk
          clear HE hdv hd hm2
          go_wp2_with fail
          refine (cloneOwn _ b S wr (H1.call hbv) (by omega)).mono ?_; rintro e w3 ⟨x3, rfl, ho3, b3⟩
          have hbv3 := hbv.trans (b3.mono hsv)
          have s3 := hbv3.size
          have hm3 := hmk.keep (b3.block _ hmk.lt)
          have HML := keepBack (show wo.heap.size < w3.heap.size from Nat.lt_of_lt_of_le hmk.lt b3.size)
          have hx3 := ho3.base hsv
          clear hmk ho3
          go_wp2_with fail
          refine (betweenR _ _ a c _ _ w3 (H0.call hbv3) (H2.call hbv3) f0 f2 (by omega)).mono ?_; rintro e w4 ⟨x4, rfl, hd4, b4⟩
          have hbv4 := hbv3.trans (b4.mono s3)
          have s4 := hbv4.size
          have hm4 := hm3.keep (b4.block _ hm3.lt)
          have HM4 := keepBack (show wo.heap.size < w4.heap.size from Nat.lt_of_lt_of_le HML.out b4.size)
          have hx4 := hx3.call b4
          have HD2 := keepBack (fineC_all HF2.out)
          have hdl2 := fineC_len HF2.out (by omega)
          clear hm3 hx3
          generalize betw a c = D2 at *
          have hd4' := hd4
          obtain ⟨ax4, cx4, rfl, hcx4, hmx4, _⟩ := hd4.shape
          unfold maxLen at hmx4
          have hm4' := hm4
          go_wp2_with fail
          go_loopw [15, 16, 58] (fun out clash i wr => ∃ (k : Nat), k ≤ D2.length ∧ i = .int .i64 k ∧ Below w4.heap.size w4 wr ∧ Own tRow 86 wr w.heap.size (fun _ => False) out (setAll b ((D2.take k).filter (freeB f))) ∧ Own tInt 3 wr w4.heap.size (fun _ => False) clash (((D2.take k).filter (clashB f)).map (·.1))) (fun _ _ i _ => D2.length - (intOf i).toNat)
          case atStart => exact ⟨0, Nat.zero_le _, rfl, Below.refl _ _, hx4, .nil⟩
          case round =>
            obtain ⟨k2, hk2, rfl, hbr, hout, hcl⟩ := hrel
            have hsr := hbr.size
            have hbw := hbv4.trans (hbr.mono s4)
            have hsw := hbw.size
            by_cases hlt2 : k2 < D2.length
            · obtain ⟨p, o, hix, _, hbs, ok1, ok2, ok3, hc0, hc1, hc2⟩ := (hd4'.call hbr).idxChg aChg k2 k2 rfl hlt2
              have hxb := HD2.out D2[k2] (List.getElem_mem hlt2)
              have hxv : -1 ≤ D2[k2].2.2 ∧ D2[k2].2.2 ≤ 996 := by simpa [valB] using hxb.2.2.2.1
              have hxk : -1 < D2[k2].1 ∧ D2[k2].1 ≤ 99 := ⟨hxb.1, hxb.2.1⟩
              have HN := keepBack (show D2.take (k2 + 1) = D2.take k2 ++ [D2[k2]] from List.take_succ_eq_append_getElem hlt2)
              have HOR := keepBack (show riseB (-1) (setAll b ((D2.take k2).filter (freeB f))) = true from setAll_rise (by omega) HRB.out (fineC_filter _ (fineC_take HF2.out k2)))
              have hol : (setAll b ((D2.take k2).filter (freeB f))).length ≤ 1000 := by
                have h1 := setAll_len b ((D2.take k2).filter (freeB f))
                have h2 := List.length_filter_le (freeB f) (D2.take k2)
                rw [List.length_take] at h2
                omega
              have hcll : (((D2.take k2).filter (clashB f)).map (·.1)).length ≤ 1000 := by
                have h2 := List.length_filter_le (clashB f) (D2.take k2)
                rw [List.length_take] at h2
                rw [List.length_map]
                omega
              generalize D2[k2] = x at *
              have HFR := keepBack (show setAll b ((D2.take (k2 + 1)).filter (freeB f)) = if freeB f x = true then setL (setAll b ((D2.take k2).filter (freeB f))) x.1 x.2.2 else setAll b ((D2.take k2).filter (freeB f)) by
                rw [HN.out, List.filter_append, List.filter_cons]
                split
                · rw [List.filter_nil, setAll_snoc]
                · rw [List.filter_nil, List.append_nil])
              have HCR := keepBack (show ((D2.take (k2 + 1)).filter (clashB f)).map (·.1) = if clashB f x = true then ((D2.take k2).filter (clashB f)).map (·.1) ++ [x.1] else ((D2.take k2).filter (clashB f)).map (·.1) by
                rw [HN.out, List.filter_append, List.filter_cons]
                split
                · rw [List.filter_nil, List.map_append]; rfl
                · rw [List.filter_nil, List.append_nil])
              generalize setAll b ((D2.take k2).filter (freeB f)) = M at *
              generalize ((D2.take k2).filter (clashB f)).map (·.1) = G at *
              have T := Cell3.alloc wr 95 x.1 x.2.1 x.2.2
              have hmW := (hm4'.keep (hbr.block _ HM4.out)).kept (World.grownBy_alloc wr (Obj.cells #[Value.int IntKind.i64 x.1, Value.int IntKind.i64 x.2.1, Value.int IntKind.i64 x.2.2] 95) none) (by simp)
              have hlook := hmW.look ok1
              have houtW := hout.alloc (Obj.cells #[Value.int IntKind.i64 x.1, Value.int IntKind.i64 x.2.1, Value.int IntKind.i64 x.2.2] 95)
              have hclW := hcl.alloc (Obj.cells #[Value.int IntKind.i64 x.1, Value.int IntKind.i64 x.2.1, Value.int IntKind.i64 x.2.2] 95)
              have hbW := hbr.alloc hsr (Obj.cells #[Value.int IntKind.i64 x.1, Value.int IntKind.i64 x.2.1, Value.int IntKind.i64 x.2.2] 95)
              have hapart := hout.apart hcl (by decide)
              have HFB := keepBack (show freeB f x = decide ((f x.1).getD 0 = 0) from rfl)
              have HCB := keepBack (show clashB f x = (!decide ((f x.1).getD 0 = 0) && !decide ((f x.1).getD 0 = x.2.2 + 2)) from rfl)
              generalize (f x.1).getD 0 = n at *
              clear hmW hxb
              by_cases hn0 : n = 0
              · have HF' : Hid (freeB f x = true) := keepBack (by rw [HFB.out]; simpa using hn0)
                have HC' : Hid (clashB f x = false) := keepBack (by rw [HCB.out]; simp [hn0])
                have hq : (n == 0) = true := by simpa using hn0
                clear hn0
                have hslo := houtW.sl (D := fun k => w.heap.size ≤ k) (fun _ h => h.elim) (fun _ h => h)
                go_wp2_with fail
                refine (rowsSet _ M x.1 x.2.2 _ _ hslo HOR.out (by omega) ⟨ok1, ok3⟩).mono ?_; rintro e w5 ⟨x5, rfl, ho5, b5⟩
                have hb5 := hbW.trans (b5.mono hbW.size)
                have hcl5 := hclW.call b5
                go_wp2
                go_roundw
                case rel => exact ⟨k2 + 1, by omega, by go_num, hb5, by rw [HFR.out, if_pos HF'.out]; exact ho5.base (by simp; omega), by rw [HCR.out, HC'.out]; exact hcl5⟩
                case measure => simp [intOf]; omega
              · have HF' : Hid (freeB f x = false) := keepBack (by rw [HFB.out]; simpa using hn0)
                have hq : (n == 0) = false := by simpa using hn0
                have e2 : x.2.2 + 1 + 1 = x.2.2 + 2 := by omega
                by_cases hn2 : n = x.2.2 + 2
                · have HC' : Hid (clashB f x = false) := keepBack (by rw [HCB.out]; simp [hn2])
                  have hq2 : (n == x.2.2 + 2) = true := by simpa using hn2
                  clear hn0 hn2
                  go_wp2
                  go_roundw
                  case rel => exact ⟨k2 + 1, by omega, by go_num, hbW, by rw [HFR.out, HF'.out]; exact houtW, by rw [HCR.out, HC'.out]; exact hclW⟩
                  case measure => simp [intOf]; omega
                · have HC' : Hid (clashB f x = true) := keepBack (by rw [HCB.out]; simp [hn2, hn0])
                  have hq2 : (n == x.2.2 + 2) = false := by simpa using hn2
                  clear hn0 hn2
                  obtain ⟨ag, cg, rfl, _, _⟩ := hcl.shape
                  have hgb := hcl.block
                  have hsrc : Src tInt ((wr.alloc (Obj.cells #[Value.int IntKind.i64 x.1, Value.int IntKind.i64 x.2.1, Value.int IntKind.i64 x.2.2] 95)).alloc (Obj.cells #[Value.int IntKind.i64 x.1] 3)) (fun _ => False) (some ⟨wr.heap.size + 1, 0, none⟩) [x.1] := by
                    have := Src.one (cs := [.int .i64 x.1]) (tInt_mk (wr.alloc (Obj.cells #[Value.int IntKind.i64 x.1, Value.int IntKind.i64 x.2.1, Value.int IntKind.i64 x.2.2] 95)) (fun _ => False) x.1 ok1) 3
                    simpa using this
                  have HB2 : G.length + [x.1].length ≤ 1000000000000 := by simp; omega
                  go_wp2_with (first
                    | (at_builtin; refine wpList_grow rfl (.tmp 67) (.tmp 70) rfl aIntS rfl (hclW.alloc _) rfl rfl hsrc nofun (fun _ h => h.elim) HB2 (Nat.le_trans hbW.size (Nat.le_of_lt (World.size_lt_alloc _ _))) ?_; intro v5 w5 ho5 hg5)
                    | fail)
                  have hbA := hbW.alloc hbW.size (Obj.cells #[Value.int IntKind.i64 x.1] 3)
                  have hb5 : Below w4.heap.size w4 w5 := hbA.grown hg5 hbA.size (fun g hg => (hgb g hg).1)
                  have hout5 := (houtW.alloc (Obj.cells #[Value.int IntKind.i64 x.1] 3)).keep (w' := w5) fun k hk hlt => hg5.block k hlt fun e => by
                    rcases hk with hk | hk
                    · exact hk.elim
                    · exact hapart k hk e.symm
                  go_wp2
                  go_roundw
                  case rel => exact ⟨k2 + 1, by omega, by go_num, hb5, by rw [HFR.out, HF'.out]; exact hout5, by rw [HCR.out, if_pos HC'.out]; exact ho5⟩
                  case measure => simp [intOf]; omega
            · have HE2 := keepBack (show D2.take k2 = D2 from List.take_of_length_le (by omega))
              rw [HE2.out, HROW.out] at hout
              rw [HE2.out, HCL.out] at hcl
              have hslo := hout.sl (D := fun k => w.heap.size ≤ k) (fun _ h => h.elim) (fun _ h => h)
              have hslc := hcl.sl (D := fun k => w.heap.size ≤ k) (fun _ h => h.elim) (fun k hk => Nat.le_trans s4 hk)
              clear hout hcl
              generalize mergeL a b c = M at *
              generalize clashL a b c = G at *
              obtain ⟨ax, cx, rfl, _, _, _⟩ := hslo.shape
              obtain ⟨ay, cy, rfl, _, _, _⟩ := hslc.shape
              by_cases h4 : 40 < M.length
              · have HP := keepBack (HPM.out h4)
                go_wp2
                go_ret3
                exact ⟨_, rfl, ⟨_, _, by rw [HP.out]; rfl, by rw [HP.out]; exact Sl.nil _ _ _, by rw [HP.out]; exact Sl.nil _ _ _⟩, hbw⟩
              · have HP := keepBack (HPO.out h4)
                go_wp2
                go_ret3
                exact ⟨_, rfl, ⟨_, _, by rw [HP.out]; rfl, by rw [HP.out]; exact hslo, by rw [HP.out]; exact hslc⟩, hbw⟩
end Go.Pch
end
