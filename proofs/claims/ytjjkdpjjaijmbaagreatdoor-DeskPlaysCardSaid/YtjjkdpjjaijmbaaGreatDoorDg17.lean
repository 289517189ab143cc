/- The walks of diff.Patch and diff.Back. -/
import Derived.Test.YtjjkdpjjaijmbaaGreatDoorDg15
import Derived.Test.YtjjkdpjjaijmbaaGreatDoorDg16
section
namespace Go.Pch
open Go.RowKit Go.Proofs
set_option maxRecDepth 100000
theorem diffFine_of {c : Bool} (v : Value) (l : List Change) (S : Blk) (w : World) (h : Sl tChange w S v l) (hc : fineC (-1) l = c) :
    Calls Tryz.prog 129 #[v] w (Ret w fun r _ => r = .bool c) := hc ▸ diffFine v l S w h
theorem rowsCheckOf {c : Int} (v : Value) (l : List Row) (S : Blk) (w : World) (h : Sl tRow w S v l) (hc : rowsErr l = c) :
    Calls Tryz.prog 165 #[v] w (Ret w fun r _ => r = .int .i64 c) := hc ▸ rowsCheck v l S w h
theorem rowsOfIs {c : Int} (v : Value) (l : List Row) (key : Int) (S : Blk) (w : World) (h : Sl tRow w S v l) (hr : riseB (-1) l = true) (hl : l.length ≤ 1000000) (hc : valueOf l key = c) :
    Calls Tryz.prog 99 #[v, .int .i64 key] w (Ret w fun r _ => r = .int .i64 c) := hc ▸ rowsOf v l key S w h hr hl
set_option maxHeartbeats 4000000 in
theorem diffPatch (v u : Value) (l : List Row) (d : List Change) (S S' : Blk) (w : World) (h : Sl tRow w S v l) (g : Sl tChange w S' u d) :
    Calls Tryz.prog 130 #[v, u] w (Ret w fun r w' => ∃ x, r = .tuple #[x, .int .i64 (patchP l d).2] ∧ Sl tRow w' (fun k => w.heap.size ≤ k) x (patchP l d).1) := by
  have gv := g
  obtain ⟨ao, cap, rfl, hcap, hmax, hnil⟩ := g.shape
  unfold maxLen at hmax
  by_cases he : rowsErr l = 0
  · obtain ⟨h40, hrs⟩ := ok_rise he
    cases hf : fineC (-1) d with
    | false =>
      have HP := keepBack (patchP_form he hf)
      go_enter Tryz.func130, Tryz.ntmps130
      go_wp2_with fail
      refine (rowsCheckOf v l S w h he).mono ?_; rintro e w1 ⟨_, rfl, rfl, b1⟩
      have s1 := b1.size
      go_wp2_with fail
      refine (diffFine_of _ d S' w1 (gv.call b1) hf).mono ?_; rintro e w2 ⟨_, rfl, rfl, b2⟩
      go_wp2
      go_ret2
      exact ⟨_, rfl, ⟨_, by rw [HP.out]; rfl, by rw [HP.out]; exact Sl.nil _ _ _⟩, b1.trans (b2.mono s1)⟩
    | true =>
      have HPC := keepBack (patchP_clash (l := l) (d := d) he hf)
      have HPM := keepBack (patchP_many (l := l) (d := d) he hf)
      have HPO := keepBack (patchP_ok (l := l) (d := d) he hf)
      have hdl := fineC_len hf (by omega)
      have HF := keepBack hf
      go_enter Tryz.func130, Tryz.ntmps130
      go_wp2_with fail
      refine (rowsCheckOf v l S w h he).mono ?_; rintro e w1 ⟨_, rfl, rfl, b1⟩
      have s1 := b1.size
      go_wp2_with fail
      refine (diffFine_of _ d S' w1 (gv.call b1) hf).mono ?_; rintro e w2 ⟨_, rfl, rfl, b2⟩
      have b02 := b1.trans (b2.mono s1)
      have s2 := b02.size
      go_wp2_with fail
      refine (cloneOwn v l S w2 (h.call b02) (by omega)).mono ?_; rintro e w3 ⟨x3, rfl, ho3, b3⟩
      have b03 := b02.trans (b3.mono s2)
      have s3 := b03.size
      have hx3 := ho3.sl (D := fun k => w.heap.size ≤ k) (fun _ h => h.elim) (fun k hk => by omega)
      clear ho3 he hf
      go_wp2_with fail
      go_loopw [7, 22] (fun out i wr => ∃ (k : Nat), k ≤ d.length ∧ i = .int .i64 k ∧ Below w.heap.size w wr ∧ Sl tRow wr (fun k => w.heap.size ≤ k) out (setAll l (d.take k)) ∧ Hid (matchB l d = matchB l (d.drop k))) (fun _ i _ => d.length - (intOf i).toNat)
      case atStart => exact ⟨0, Nat.zero_le _, rfl, b03, hx3, keepBack rfl⟩
      case round =>
        obtain ⟨k, hk, rfl, hbr, hout, HM⟩ := hrel
        have hs := hbr.size
        by_cases hlt : k < d.length
        · obtain ⟨b, o, hix, _, hbs, ok1, ok2, ok3, hc0, hc1, hc2⟩ := (gv.call hbr).idxChg aChg k k rfl hlt
          have HSTEP := keepBack (setAll_step l d hlt)
          have HGO := keepBack (match_go (l := l) hlt)
          have HST := keepBack (match_stop (l := l) hlt)
          have hor : riseB (-1) (setAll l (d.take k)) = true := setAll_rise (by omega) hrs (fineC_take HF.out k)
          have hol := setAll_len l (d.take k)
          rw [List.length_take] at hol
          generalize d[k] = x at *
          generalize setAll l (d.take k) = M at *
          have T := Cell3.alloc wr 95 x.1 x.2.1 x.2.2
          by_cases hm : valueOf l x.1 = x.2.1
          · have HGO' := keepBack (HGO.out hm)
            go_wp2_with fail
            generalize wr.alloc (Obj.cells #[Value.int IntKind.i64 x.1, Value.int IntKind.i64 x.2.1, Value.int IntKind.i64 x.2.2] 95) = W1 at *
            have t0 := T.cell0
            have t1 := T.cell1
            have t2 := T.cell2
            have tl := T.lt
            have hb1 := hbr.trans (T.low.mono hs)
            have hs1 := hb1.size
            have hl1 := h.call hb1
            have hout1 := hout.call T.low
            have KS : ∀ W, Below W1.heap.size W1 W → Below W1.heap.size W1 W ∧ W.cell? ⟨wr.heap.size, 0, none⟩ = some (.int .i64 x.1) ∧ W.cell? ⟨wr.heap.size, 1, none⟩ = some (.int .i64 x.2.1) ∧ W.cell? ⟨wr.heap.size, 2, none⟩ = some (.int .i64 x.2.2) := fun W hW => ⟨hW, (hW.cell (p := ⟨wr.heap.size, 0, none⟩) tl).trans t0, (hW.cell (p := ⟨wr.heap.size, 1, none⟩) tl).trans t1, (hW.cell (p := ⟨wr.heap.size, 2, none⟩) tl).trans t2⟩
            clear hc0 hc1 hc2
            go_wp2_with fail
            go_region_held3 (fun w' => Below W1.heap.size W1 w' ∧ w'.cell? ⟨wr.heap.size, 0, none⟩ = some (.int .i64 x.1) ∧ w'.cell? ⟨wr.heap.size, 1, none⟩ = some (.int .i64 x.2.1) ∧ w'.cell? ⟨wr.heap.size, 2, none⟩ = some (.int .i64 x.2.2))
              (first
                | exact KS _ (Below.refl _ _).drew
                | exact KS _ (Below.refl _ _)
                | exact KS _ (by assumption)
                | fail)
              (first
                | (go_at_call 99; refine (rowsOfIs v l x.1 S W1.drew (hl1.keep fun _ _ _ => rfl) hrs (by omega) hm).mono ?_; rintro e W2 ⟨_, rfl, rfl, b2⟩; have b12 : Below W1.heap.size W1 W2 := ((Below.refl W1.heap.size W1).drew).trans b2)
                | fail)
            have hbw2 := hb1.trans (b12.mono hs1)
            have hs2' := hbw2.size
            have u0 := (b12.cell (p := ⟨wr.heap.size, 0, none⟩) tl).trans t0
            have u2 := (b12.cell (p := ⟨wr.heap.size, 2, none⟩) tl).trans t2
            have hout2 := hout1.call b12
            clear hm t0 t1 t2 KS
            go_wp2_with fail
            refine (rowsSet _ M x.1 x.2.2 _ W2 hout2 hor (by omega) ⟨ok1, ok3⟩).mono ?_; rintro e W3 ⟨x4, rfl, ho4, b4⟩
            have hx4 := ho4.sl (D := fun k => w.heap.size ≤ k) (fun _ h => h.elim) (fun k hk => by omega)
            go_wp2
            go_roundw
            case rel => exact ⟨k + 1, by omega, by go_num, hbw2.trans (b4.mono hs2'), by rw [HSTEP.out]; exact hx4, keepBack (by rw [HM.out, HGO'.out])⟩
            case measure => simp [intOf]; omega
          · have hq : (valueOf l x.1 != x.2.1) = true := by simp [hm]
            have HP := keepBack (HPC.out (by rw [HM.out]; exact HST.out hm))
            clear hm
            go_wp2_with fail
            generalize wr.alloc (Obj.cells #[Value.int IntKind.i64 x.1, Value.int IntKind.i64 x.2.1, Value.int IntKind.i64 x.2.2] 95) = W1 at *
            have t0 := T.cell0
            have t1 := T.cell1
            have t2 := T.cell2
            have tl := T.lt
            have hb1 := hbr.trans (T.low.mono hs)
            have hs1 := hb1.size
            have hl1 := h.call hb1
            have hout1 := hout.call T.low
            have KS : ∀ W, Below W1.heap.size W1 W → Below W1.heap.size W1 W ∧ W.cell? ⟨wr.heap.size, 0, none⟩ = some (.int .i64 x.1) ∧ W.cell? ⟨wr.heap.size, 1, none⟩ = some (.int .i64 x.2.1) ∧ W.cell? ⟨wr.heap.size, 2, none⟩ = some (.int .i64 x.2.2) := fun W hW => ⟨hW, (hW.cell (p := ⟨wr.heap.size, 0, none⟩) tl).trans t0, (hW.cell (p := ⟨wr.heap.size, 1, none⟩) tl).trans t1, (hW.cell (p := ⟨wr.heap.size, 2, none⟩) tl).trans t2⟩
            clear hc0 hc1 hc2
            go_wp2_with fail
            go_region_held3 (fun w' => Below W1.heap.size W1 w' ∧ w'.cell? ⟨wr.heap.size, 0, none⟩ = some (.int .i64 x.1) ∧ w'.cell? ⟨wr.heap.size, 1, none⟩ = some (.int .i64 x.2.1) ∧ w'.cell? ⟨wr.heap.size, 2, none⟩ = some (.int .i64 x.2.2))
              (first
                | exact KS _ (Below.refl _ _).drew
                | exact KS _ (Below.refl _ _)
                | exact KS _ (by assumption)
                | fail)
              (first
                | (go_at_call 99; refine (rowsOf v l x.1 S W1.drew (hl1.keep fun _ _ _ => rfl) hrs (by omega)).mono ?_; rintro e W2 ⟨_, rfl, rfl, b2⟩; have b12 : Below W1.heap.size W1 W2 := ((Below.refl W1.heap.size W1).drew).trans b2)
                | fail)
            go_wp2
            go_ret2
            exact ⟨_, rfl, ⟨_, by rw [HP.out]; rfl, by rw [HP.out]; exact Sl.nil _ _ _⟩, hb1.trans (b12.mono hs1)⟩
        · have HE : Hid (setAll l (d.take k) = setAll l d) := keepBack (by rw [List.take_of_length_le (by omega)])
          have hmt : matchB l d = true := by rw [HM.out]; exact match_end hlt
          have HPM' := keepBack (HPM.out hmt)
          have HPO' := keepBack (HPO.out hmt)
          rw [HE.out] at hout
          clear hmt
          generalize setAll l d = M at *
          obtain ⟨ax, cx, rfl, _, _, _⟩ := hout.shape
          by_cases h4 : 40 < M.length
          · have HP := keepBack (HPM'.out h4)
            go_wp2
            go_ret2
            exact ⟨_, rfl, ⟨_, by rw [HP.out]; rfl, by rw [HP.out]; exact Sl.nil _ _ _⟩, hbr⟩
          · have HP := keepBack (HPO'.out h4)
            go_wp2
            go_ret2
            exact ⟨_, rfl, ⟨_, by rw [HP.out]; rfl, by rw [HP.out]; exact hout⟩, hbr⟩
  · have hq : (rowsErr l != 0) = true := by simp [he]
    have HP := keepBack (patchP_err (d := d) he)
    go_enter Tryz.func130, Tryz.ntmps130
    go_wp2_with fail
    refine (rowsCheck v l S w h).mono ?_; rintro e w1 ⟨_, rfl, rfl, b1⟩
    go_wp2
    go_ret2
    exact ⟨_, rfl, ⟨_, by rw [HP.out]; rfl, by rw [HP.out]; exact Sl.nil _ _ _⟩, b1⟩
end Go.Pch
end
