/- The walk of the document's PatchOf. -/
import Derived.Test.YtipondhhchicjaaDiffE
import Derived.Test.YtipondhhchicjaaPatP
namespace Go.Pch
open Go.RowKit Go.Proofs
set_option maxRecDepth 100000

theorem refRowsErrorOf {c : Int} (v : Value) (l : List Row) (S : Blk) (w : World) (h : Sl tRow w S v l) (hc : rowsErr l = c) :
    Calls Try.prog 42 #[v] w (Quiet w (.int .i64 c)) := hc ▸ refRowsError v l S w h

set_option maxHeartbeats 4000000 in
theorem refPatchOf (v u : Value) (l : List Row) (d : List Change) (S S' : Blk) (w : World) (h : Sl tRow w S v l) (g : Sl tChange w S' u d) :
    Calls Try.prog 28 #[v, u] w (Ret w fun r w' => ∃ x, r = .tuple #[x, .int .i64 (patchP l d).2] ∧ Sl tRow w' (fun k => w.heap.size ≤ k) x (patchP l d).1) := by
  have gv := g
  obtain ⟨ao, cap, rfl, hcap, hmax, hnil⟩ := g.shape
  unfold maxLen at hmax
  by_cases he : rowsErr l = 0
  · obtain ⟨h40, hrs⟩ := ok_rise he
    cases hf : fineC (-1) d with
    | false =>
      have HP := keepBack (patchP_form he hf)
      go_enter Try.func28, Try.ntmps28
      go_wp2_with fail
      refine (refRowsErrorOf v l S w h he).mono ?_; rintro e w1 ⟨rfl, d1⟩
      have b1 := d1.below
      have s1 := b1.size
      go_wp2_with fail
      refine (refChangesFine_of _ d S' w1 (gv.call b1) hf).mono ?_; rintro e w2 ⟨rfl, d2⟩
      go_wp2
      go_ret2
      exact ⟨_, rfl, ⟨_, by rw [HP.out]; rfl, by rw [HP.out]; exact Sl.nil _ _ _⟩, b1.trans (d2.below.mono s1)⟩
    | true =>
      have HPC := keepBack (patchP_clash (l := l) (d := d) he hf)
      have HPM := keepBack (patchP_many (l := l) (d := d) he hf)
      have HPO := keepBack (patchP_ok (l := l) (d := d) he hf)
      have hdl := fineC_len hf (by omega)
      have HALL := keepBack (fineC_all hf)
      have HF := keepBack hf
      have HRS := keepBack hrs
      go_enter Try.func28, Try.ntmps28
      go_wp2_with fail
      refine (refRowsErrorOf v l S w h he).mono ?_; rintro e w1 ⟨rfl, d1⟩
      have b1 := d1.below
      have s1 := b1.size
      go_wp2_with fail
      refine (refChangesFine_of _ d S' w1 (gv.call b1) hf).mono ?_; rintro e w2 ⟨rfl, d2⟩
      have b02 := b1.trans (d2.below.mono s1)
      have s2 := b02.size
      go_wp2_with fail
      refine (refSpreadA v l S w2 (h.call b02)).mono ?_; rintro e w3 ⟨_, rfl, ⟨A, rfl, HA, HSZ, HONE, HLN⟩, b3⟩
      have b03 := b02.trans (b3.mono s2)
      have s3 := b03.size
      clear he hf
      go_wp2_with (first
        | (refine wpList_store_row rfl 67 (.tmp 7) (.tmp 19) rfl w3.heap.size A rfl rfl _ _ (heap_alloc_new w3 _) HSZ.out (by rw [HLN.out] <;> rfl) HONE.out ?_
           generalize hW : World.setRow _ _ _ = W4
           have ht0 : TabAt W4 w3.heap.size (valueOf l) := by unfold TabAt; rw [← HA.out, ← hW]; exact setRow_heap _ _ _ _ _ _ (heap_alloc_new w3 _)
           have hb4 : Below w.heap.size w W4 := by rw [← hW]; exact below_setRow (b03.alloc (by omega) _) (by omega) _
           clear hW)
        | fail)
      go_loopw [8] (fun i wr => ∃ (k : Nat), k ≤ d.length ∧ i = .int .i64 k ∧ Below w.heap.size w wr ∧ TabAt wr w3.heap.size (valueOf (setAll l (d.take k))) ∧ Hid (matchB l d = matchB l (d.drop k))) (fun i _ => d.length - (intOf i).toNat)
      case atStart => exact ⟨0, Nat.zero_le _, rfl, hb4, ht0, keepBack rfl⟩
      case round =>
        obtain ⟨k, hk, rfl, hbr, ht, HM⟩ := hrel
        have hs := hbr.size
        have hgl := ht.lt
        clear ht0 hb4
        by_cases hlt : k < d.length
        · obtain ⟨b, o, hix, hSb, hbs, ok1, ok2, ok3, hc0, hc1, hc2⟩ := gv.idxChg aChg k k rfl hlt
          have hc0 := (hbr.cell (p := ⟨b, o, none⟩) hbs).trans hc0
          have hc1 := (hbr.cell (p := ⟨b, o + 1, none⟩) hbs).trans hc1
          have hc2 := (hbr.cell (p := ⟨b, o + 2, none⟩) hbs).trans hc2
          have hne : b ≠ w3.heap.size := by omega
          have HSTEP := keepBack (setAll_step l d hlt)
          have HAH := keepBack (setAll_ahead HRS.out HF.out hlt)
          have HGO := keepBack (match_go (l := l) hlt)
          have HST := keepBack (match_stop (l := l) hlt)
          have hall := HALL.out d[k] (List.getElem_mem hlt)
          have hor : riseB (-1) (setAll l (d.take k)) = true := setAll_rise (by omega) HRS.out (fineC_take HF.out k)
          have HOR := keepBack hor
          clear hor
          generalize d[k] = x at *
          generalize setAll l (d.take k) = M at *
          obtain ⟨key, old, new⟩ := x
          obtain ⟨kn, rfl⟩ : ∃ kn : Nat, key = (kn : Int) := ⟨key.toNat, by have := hall.1; simp at this; omega⟩
          have hkn : kn < 100 := by have := hall.2.1; simp at this; omega
          have hi0 : (0 : Int) ≤ kn := by omega
          have hi9 : (kn : Int) < 100 := by omega
          have ht1 := ht.cell kn hkn
          have ht2 := ht.free kn
          rw [show valueOf M (kn : Int) = valueOf l kn from HAH.out] at ht1
          have HT := keepBack (ht.set kn hkn new)
          clear ht hall
          simp only at hc0 hc1 hc2 ok1 ok2 ok3
          by_cases hm : valueOf l kn = old
          · have hq : (valueOf l kn != old) = false := by simp [hm]
            have HGO' := keepBack (HGO.out hm)
            clear hm
            generalize valueOf l (kn : Int) = c at *
            go_wp2_with fail
            go_quiet (fail)
            have hDq := ((Drawn.refl wr).next nq).below
            have hbq := hbr.trans (hDq.mono hs)
            replace hc0 := (World.cell?_drewN wr nq _).trans hc0
            replace hc1 := (World.cell?_drewN wr nq _).trans hc1
            replace hc2 := (World.cell?_drewN wr nq _).trans hc2
            replace ht1 := (World.cell?_drewN wr nq _).trans ht1
            replace ht2 : (wr.drewN nq).frozen? ⟨w3.heap.size, kn, none⟩ = false := ht2
            have HT' : Hid (TabAt ((wr.drewN nq).setCell ⟨w3.heap.size, kn, none⟩ (.int .i64 new)) w3.heap.size (fun j => if j = (kn : Int) then new else valueOf M j)) := keepBack HT.out
            clear HT
            generalize wr.drewN nq = wq at *
            have hsq := hbq.size
            go_wp2_with fail
            go_region
            go_wp2
            go_roundw
            case rel =>
              refine ⟨k + 1, by omega, by go_num, (hbq.setCell (by simp; omega) _).drew, ?_, keepBack (by rw [HM.out, HGO'.out])⟩
              rw [HSTEP.out]
              have ht := HT'.out
              exact TabAt.same (w := wq.setCell ⟨w3.heap.size, kn, none⟩ (.int .i64 new)) ht fun j h0 h1 => (setL_value HOR.out (kn : Int) new j).symm
            case measure => simp [intOf]; omega
          · have hq : (valueOf l kn != old) = true := by simp [hm]
            have HP := keepBack (HPC.out (by rw [HM.out]; exact HST.out hm))
            clear hm
            generalize valueOf l (kn : Int) = c at *
            go_wp2_with fail
            go_quiet (fail)
            go_wp2
            go_ret2
            exact ⟨_, rfl, ⟨_, by rw [HP.out]; rfl, by rw [HP.out]; exact Sl.nil _ _ _⟩, hbr.trans (((Drawn.refl wr).next nq).below.mono hs)⟩
        · have hmt : matchB l d = true := by rw [HM.out]; exact match_end hlt
          have HPM' := keepBack (HPM.out hmt)
          have HPO' := keepBack (HPO.out hmt)
          rw [show d.take k = d from List.take_of_length_le (by omega)] at ht
          have HOR := keepBack (setAll_rise (by omega) HRS.out HF.out)
          clear hmt
          generalize setAll l d = M at *
          have HT := keepBack ht
          unfold TabAt at HT
          have HBD := keepBack (valueOf_bounds HOR.out)
          have HFO := keepBack (folded_of HOR.out)
          clear ht
          go_wp2_with (first
            | (refine wpList_load_row rfl 67 (.tmp 7) rfl w3.heap.size rfl _ _ _ _ HT.out Try.underlying67 rfl (tabSize' _) ?_)
            | fail)
          refine (refFolded _ wr HBD.out).mono ?_; rintro e w5 ⟨y, rfl, hy, b5⟩
          rw [HFO.out] at hy
          obtain ⟨ax, cx, rfl, _, _, _⟩ := hy.shape
          have hb5 := hbr.trans (b5.mono hs)
          have hy' := hy.mono (S' := fun k => w.heap.size ≤ k) fun k hk _ => Nat.le_trans hs hk
          by_cases h4 : 40 < M.length
          · have HP := keepBack (HPM'.out h4)
            go_wp2
            go_ret2
            exact ⟨_, rfl, ⟨_, by rw [HP.out]; rfl, by rw [HP.out]; exact Sl.nil _ _ _⟩, hb5⟩
          · have HP := keepBack (HPO'.out h4)
            go_wp2
            go_ret2
            exact ⟨_, rfl, ⟨_, by rw [HP.out]; rfl, by rw [HP.out]; exact hy'⟩, hb5⟩
  · have hq : (rowsErr l != 0) = true := by simp [he]
    have HP := keepBack (patchP_err (d := d) he)
    go_enter Try.func28, Try.ntmps28
    go_wp2_with fail
    refine (refRowsError v l S w h).mono ?_; rintro e w1 ⟨rfl, d1⟩
    go_wp2
    go_ret2
    exact ⟨_, rfl, ⟨_, by rw [HP.out]; rfl, by rw [HP.out]; exact Sl.nil _ _ _⟩, d1.below⟩

end Go.Pch
