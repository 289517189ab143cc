/- The walks of rows.Put, and of the document's FindOf and PutOf. The walk of the document's PatchOf. The walk of the document's PutTo. -/
import Derived.Test.YtjjkdpjjaijmbaaGreatDoorDg26
import Derived.Test.YtjjkdpjjaijmbaaGreatDoorDg13
import Derived.Test.YtjjkdpjjaijmbaaGreatDoorDg16
section
namespace Go.Pch
open Go.RowKit Go.Proofs
end Go.Pch
end

section
namespace Go.Pch
open Go.RowKit Go.Proofs
set_option maxRecDepth 100000
theorem refSpreadA (v : Value) (l : List Row) (S : Blk) (w : World) (h : Sl tRow w S v l) :
    Calls Tryz.prog 89 #[v] w (Ret w fun r _ => ∃ A, r = .agg A ∧ Hid (A = (tabL (valueOf l)).toArray) ∧ Hid ((Tryz.prog.info? 125).map (·.size) = some A.size) ∧ Hid (A.all (·.oneCell') = true) ∧ Hid (A.size = 100)) :=
  (refSpread v l S w h).mono fun _ _ ⟨r, he, hr, hb⟩ => ⟨r, he, ⟨_, hr, keepBack rfl, keepBack (tabSize' _), keepBack (tab_ones _), keepBack (by simp [tabL_len])⟩, hb⟩
theorem refChangesFine_of {c : Bool} (v : Value) (l : List Change) (S : Blk) (w : World) (h : Sl tChange w S v l) (hc : fineC (-1) l = c) :
    Calls Tryz.prog 114 #[v] w (Quiet w (.bool c)) := hc ▸ refChangesFine v l S w h
theorem refRowsErrorOf {c : Int} (v : Value) (l : List Row) (S : Blk) (w : World) (h : Sl tRow w S v l) (hc : rowsErr l = c) :
    Calls Tryz.prog 117 #[v] w (Quiet w (.int .i64 c)) := hc ▸ refRowsError v l S w h
set_option maxHeartbeats 4000000 in
theorem refPatchOf (v u : Value) (l : List Row) (d : List Change) (S S' : Blk) (w : World) (h : Sl tRow w S v l) (g : Sl tChange w S' u d) :
    Calls Tryz.prog 115 #[v, u] w (Ret w fun r w' => ∃ x, r = .tuple #[x, .int .i64 (patchP l d).2] ∧ Sl tRow w' (fun k => w.heap.size ≤ k) x (patchP l d).1) := by
  have gv := g
  obtain ⟨ao, cap, rfl, hcap, hmax, hnil⟩ := g.shape
  unfold maxLen at hmax
  by_cases he : rowsErr l = 0
  · obtain ⟨h40, hrs⟩ := ok_rise he
    cases hf : fineC (-1) d with
    | false =>
      have HP := keepBack (patchP_form he hf)
      go_enter Tryz.func115, Tryz.ntmps115
      go_wp2_with fail
      refine (refRowsErrorOf v l S w h he).mono ?_; rintro e w1 ⟨rfl, d1⟩
      have b1 := d1.below
      have s1 := b1.size
      go_wp2_with fail
      refine (refChangesFine_of _ d S' w1 (gv.call b1) hf).mono ?_; rintro e w2 ⟨rfl, d2⟩
      go_wp2
      go_ret2
      exact ⟨_, rfl, ⟨_, by rw [HP.out]; rfl, by rw [HP.out]; exact Sl.nil _ _ _⟩, b1.trans (d2.below.mono s1)⟩
    | true =>
      have HPC := keepBack (patchP_clash (l := l) (d := d) he hf)
      have HPM := keepBack (patchP_many (l := l) (d := d) he hf)
      have HPO := keepBack (patchP_ok (l := l) (d := d) he hf)
      have hdl := fineC_len hf (by omega)
      have HALL := keepBack (fineC_all hf)
      have HF := keepBack hf
      have HRS := keepBack hrs
      go_enter Tryz.func115, Tryz.ntmps115
      go_wp2_with fail
      refine (refRowsErrorOf v l S w h he).mono ?_; rintro e w1 ⟨rfl, d1⟩
      have b1 := d1.below
      have s1 := b1.size
      go_wp2_with fail
      refine (refChangesFine_of _ d S' w1 (gv.call b1) hf).mono ?_; rintro e w2 ⟨rfl, d2⟩
      have b02 := b1.trans (d2.below.mono s1)
      have s2 := b02.size
      go_wp2_with fail
      refine (refSpreadA v l S w2 (h.call b02)).mono ?_; rintro e w3 ⟨_, rfl, ⟨A, rfl, HA, HSZ, HONE, HLN⟩, b3⟩
      have b03 := b02.trans (b3.mono s2)
      have s3 := b03.size
      clear he hf
      go_wp2_with (first
        | (refine wpList_store_row rfl 125 (.tmp 7) (.tmp 19) rfl w3.heap.size A rfl rfl _ _ (heap_alloc_new w3 _) HSZ.out (by rw [HLN.out] <;> rfl) HONE.out ?_
           generalize hW : World.setRow _ _ _ = W4
           have ht0 : TabAt W4 w3.heap.size (valueOf l) := by unfold TabAt; rw [← HA.out, ← hW]; exact setRow_heap _ _ _ _ _ _ (heap_alloc_new w3 _)
           have hb4 : Below w.heap.size w W4 := by rw [← hW]; exact below_setRow (b03.alloc (by omega) _) (by omega) _
           clear hW)
        | fail)
      go_loopw [8] (fun i wr => ∃ (k : Nat), k ≤ d.length ∧ i = .int .i64 k ∧ Below w.heap.size w wr ∧ TabAt wr w3.heap.size (valueOf (setAll l (d.take k))) ∧ Hid (matchB l d = matchB l (d.drop k))) (fun i _ => d.length - (intOf i).toNat)
      case atStart => exact ⟨0, Nat.zero_le _, rfl, hb4, ht0, keepBack rfl⟩
      case round =>
        obtain ⟨k, hk, rfl, hbr, ht, HM⟩ := hrel
        have hs := hbr.size
        have hgl := ht.lt
        clear ht0 hb4
        by_cases hlt : k < d.length
        · obtain ⟨b, o, hix, hSb, hbs, ok1, ok2, ok3, hc0, hc1, hc2⟩ := gv.idxChg aChg k k rfl hlt
          have hc0 := (hbr.cell (p := ⟨b, o, none⟩) hbs).trans hc0
          have hc1 := (hbr.cell (p := ⟨b, o + 1, none⟩) hbs).trans hc1
          have hc2 := (hbr.cell (p := ⟨b, o + 2, none⟩) hbs).trans hc2
          have hne : b ≠ w3.heap.size := by omega
          have HSTEP := keepBack (setAll_step l d hlt)
          have HAH := keepBack (setAll_ahead HRS.out HF.out hlt)
          have HGO := keepBack (match_go (l := l) hlt)
          have HST := keepBack (match_stop (l := l) hlt)
          have hall := HALL.out d[k] (List.getElem_mem hlt)
          have hor : riseB (-1) (setAll l (d.take k)) = true := setAll_rise (by omega) HRS.out (fineC_take HF.out k)
          have HOR := keepBack hor
          clear hor
          generalize d[k] = x at *
          generalize setAll l (d.take k) = M at *
          obtain ⟨key, old, new⟩ := x
          obtain ⟨kn, rfl⟩ : ∃ kn : Nat, key = (kn : Int) := ⟨key.toNat, by have := hall.1; simp at this; omega⟩
          have hkn : kn < 100 := by have := hall.2.1; simp at this; omega
          have hi0 : (0 : Int) ≤ kn := by omega
          have hi9 : (kn : Int) < 100 := by omega
          have ht1 := ht.cell kn hkn
          have ht2 := ht.free kn
          rw [show valueOf M (kn : Int) = valueOf l kn from HAH.out] at ht1
          have HT := keepBack (ht.set kn hkn new)
          clear ht hall
          simp only at hc0 hc1 hc2 ok1 ok2 ok3
          by_cases hm : valueOf l kn = old
          · have hq : (valueOf l kn != old) = false := by simp [hm]
            have HGO' := keepBack (HGO.out hm)
            clear hm
            generalize valueOf l (kn : Int) = c at *
            go_wp2_with fail
            go_quiet (fail)
            have hDq := ((Drawn.refl wr).next nq).below
            have hbq := hbr.trans (hDq.mono hs)
            replace hc0 := (World.cell?_drewN wr nq _).trans hc0
            replace hc1 := (World.cell?_drewN wr nq _).trans hc1
            replace hc2 := (World.cell?_drewN wr nq _).trans hc2
            replace ht1 := (World.cell?_drewN wr nq _).trans ht1
            replace ht2 : (wr.drewN nq).frozen? ⟨w3.heap.size, kn, none⟩ = false := ht2
            have HT' : Hid (TabAt ((wr.drewN nq).setCell ⟨w3.heap.size, kn, none⟩ (.int .i64 new)) w3.heap.size (fun j => if j = (kn : Int) then new else valueOf M j)) := keepBack HT.out
            clear HT
            generalize wr.drewN nq = wq at *
            have hsq := hbq.size
            go_wp2_with fail
            go_region
            go_wp2
            go_roundw
            case rel =>
              refine ⟨k + 1, by omega, by go_num, (hbq.setCell (by simp; omega) _).drew, ?_, keepBack (by rw [HM.out, HGO'.out])⟩
              rw [HSTEP.out]
              have ht := HT'.out
              exact TabAt.same (w := wq.setCell ⟨w3.heap.size, kn, none⟩ (.int .i64 new)) ht fun j h0 h1 => (setL_value HOR.out (kn : Int) new j).symm
            case measure => simp [intOf]; omega
          · have hq : (valueOf l kn != old) = true := by simp [hm]
            have HP := keepBack (HPC.out (by rw [HM.out]; exact HST.out hm))
            clear hm
            generalize valueOf l (kn : Int) = c at *
            go_wp2_with fail
            go_quiet (fail)
            go_wp2
            go_ret2
            exact ⟨_, rfl, ⟨_, by rw [HP.out]; rfl, by rw [HP.out]; exact Sl.nil _ _ _⟩, hbr.trans (((Drawn.refl wr).next nq).below.mono hs)⟩
        · have hmt : matchB l d = true := by rw [HM.out]; exact match_end hlt
          have HPM' := keepBack (HPM.out hmt)
          have HPO' := keepBack (HPO.out hmt)
          rw [show d.take k = d from List.take_of_length_le (by omega)] at ht
          have HOR := keepBack (setAll_rise (by omega) HRS.out HF.out)
          clear hmt
          generalize setAll l d = M at *
          have HT := keepBack ht
          unfold TabAt at HT
          have HBD := keepBack (valueOf_bounds HOR.out)
          have HFO := keepBack (folded_of HOR.out)
          clear ht
          go_wp2_with (first
            | (refine wpList_load_row rfl 125 (.tmp 7) rfl w3.heap.size rfl _ _ _ _ HT.out Tryz.underlying125 rfl (tabSize' _) ?_)
            | fail)
          refine (refFolded _ wr HBD.out).mono ?_; rintro e w5 ⟨y, rfl, hy, b5⟩
          rw [HFO.out] at hy
          obtain ⟨ax, cx, rfl, _, _, _⟩ := hy.shape
          have hb5 := hbr.trans (b5.mono hs)
          have hy' := hy.mono (S' := fun k => w.heap.size ≤ k) fun k hk _ => Nat.le_trans hs hk
          by_cases h4 : 40 < M.length
          · have HP := keepBack (HPM'.out h4)
            go_wp2
            go_ret2
            exact ⟨_, rfl, ⟨_, by rw [HP.out]; rfl, by rw [HP.out]; exact Sl.nil _ _ _⟩, hb5⟩
          · have HP := keepBack (HPO'.out h4)
            go_wp2
            go_ret2
            exact ⟨_, rfl, ⟨_, by rw [HP.out]; rfl, by rw [HP.out]; exact hy'⟩, hb5⟩
  · have hq : (rowsErr l != 0) = true := by simp [he]
    have HP := keepBack (patchP_err (d := d) he)
    go_enter Tryz.func115, Tryz.ntmps115
    go_wp2_with fail
    refine (refRowsError v l S w h).mono ?_; rintro e w1 ⟨rfl, d1⟩
    go_wp2
    go_ret2
    exact ⟨_, rfl, ⟨_, by rw [HP.out]; rfl, by rw [HP.out]; exact Sl.nil _ _ _⟩, d1.below⟩
end Go.Pch
end

section
namespace Go.Pch
open Go.RowKit Go.Proofs
set_option maxRecDepth 100000
def RefRet (B : Nat) (p : Repo × Int) (x : Value) (w' : World) : Prop := ∃ y, x = .tuple #[y, .int .i64 p.2] ∧ Rp w' (fun k => B ≤ k) y p.1
theorem RefRet.no {B : Nat} {p : Repo × Int} {w : World} {e : Int} (hp : p = (noRepo, e)) : RefRet B p (.tuple #[.agg #[.slice none 0 0, .slice none 0 0], .int .i64 e]) w := by
  subst hp
  exact ⟨_, rfl, noRepo_rp _ _⟩
theorem rpAny {w W : World} {x y : Value} {r : Repo} (g : Rp W (fun k => w.heap.size ≤ k ∧ k ≠ w.heap.size + 1) (.agg #[x, y]) r) : Rp ((W.setCell ⟨w.heap.size + 1, 0, none⟩ x).setCell ⟨w.heap.size + 1, 1, none⟩ y) (fun k => w.heap.size ≤ k) (.agg #[x, y]) r := by
  obtain ⟨_, _, hv, x1, x2⟩ := g.keep (w' := (W.setCell ⟨w.heap.size + 1, 0, none⟩ x).setCell ⟨w.heap.size + 1, 1, none⟩ y) fun k hk _ => (heap_setCell_other _ _ _ _ hk.2).trans (heap_setCell_other _ _ _ _ hk.2)
  exact ⟨_, _, hv, x1.mono fun _ hk _ => hk.1, x2.mono fun _ hk _ => hk.1⟩
theorem headK_at {cs : List Commit} {hs : List Head} {s : ByteArray} (hr : headsRise cs.length [] hs = true) (hh : hdHas hs s = true) : headK hs s = some (hdN hs s) := by rw [headK_seek hr s, hh]; rfl
theorem BoxAt.held {w wB W : World} {x0 x1 : Value} (h : BoxAt w wB x0 x1) (b : Below wB.heap.size wB W) (x y : Value) : ((W.setCell ⟨w.heap.size + 1, 0, none⟩ x).setCell ⟨w.heap.size + 1, 1, none⟩ y).cell? ⟨w.heap.size, 0, none⟩ = some x0 ∧ ((W.setCell ⟨w.heap.size + 1, 0, none⟩ x).setCell ⟨w.heap.size + 1, 1, none⟩ y).cell? ⟨w.heap.size, 1, none⟩ = some x1 := by
  have hz := h.size
  have e : ((W.setCell ⟨w.heap.size + 1, 0, none⟩ x).setCell ⟨w.heap.size + 1, 1, none⟩ y).heap[w.heap.size]? = some (.cells #[x0, x1] 33) := ((heap_setCell_other _ _ _ _ (by simp)).trans (heap_setCell_other _ _ _ _ (by simp))).trans ((b.block w.heap.size (by omega)).trans h.arg)
  exact ⟨by rw [World.cell?, e]; rfl, by rw [World.cell?, e]; rfl⟩
set_option maxHeartbeats 1000000 in
theorem refPutTo (v u : Value) (r : Repo) (s : ByteArray) (d : List Change) (S S' : Blk) (w : World) (h : Rp w S v r) (g : Sl tChange w S' u d) :
    Calls Tryz.prog 78 #[v, .string s, u] w (Ret w (RefRet w.heap.size (jPut r s d))) := by
  have hR := h
  obtain ⟨cs, hs⟩ := r
  obtain ⟨vc, vh, rfl, hc, hh⟩ := h
  obtain ⟨ac, cc, rfl, _, _, _⟩ := hc.shape
  obtain ⟨ah, ch, rfl, _, _, _⟩ := hh.shape
  obtain ⟨ad, cd, rfl, _, _, _⟩ := g.shape
  simp only at hc hh
  have hX := boxAt w (.slice ac cs.length cc) (.slice ah hs.length ch)
  obtain ⟨wB, hwB⟩ : ∃ wB, wB = (w.alloc (.cells #[.slice ac cs.length cc, .slice ah hs.length ch] 33)).alloc (.cells #[.slice none 0 0, .slice none 0 0] 33) := ⟨_, rfl⟩
  rw [← hwB] at hX
  have HWB := keepBack hwB
  clear hwB
  have zB := hX.size
  have hRB := hR.call hX.low
  by_cases he : (headP (cs, hs) s).2 = 0
  · obtain ⟨he0, n, hn, hP, x, hx, hxs, hxn⟩ := head_there he
    have HJ := keepBack (jPut_at (d := d) hP)
    have hrk := (repo_ok he0).2.2.2
    have hs4 := (repo_ok he0).2.1
    have hc14 := (dag_ok (repo_ok he0).1).1
    have hfew := repo_few he0
    simp only at hrk hs4 hc14 hn hx hfew
    have hhd : hdHas hs s = true := by unfold hdHas; rw [hx]; simpa using hxs
    have HX := keepBack hx
    clear hx
    go_enter Tryz.func78, Tryz.ntmps78
    go_wp2_with fail
    rw [← HWB.out]
    refine (refHeadOf_of _ (cs, hs) s S wB hRB hP).mono ?_; rintro e w1 ⟨_, rfl, rfl, b1⟩
    cases hf : fineC (-1) d with
    | false =>
      have HP := keepBack (HJ.out.trans (putN_form hf))
      go_wp2_with fail
      refine (refChangesFine_of _ d _ w1 (g.call (hX.low.trans (b1.mono (by omega)))) hf).mono ?_; rintro e w2 ⟨rfl, d2⟩
      have bB2 := b1.trans (d2.below.mono b1.size)
      obtain ⟨y0, y1, y2, y3, yf⟩ := hX.on bB2
      go_wp2_with fail
      refine bodyPost_ret (repoResults rfl _ _ _ _ _ _ _ rfl rfl (hX.fin bB2 _ _).1) rfl ?_
      exact ⟨_, rfl, RefRet.no HP.out, (hX.fin bB2 _ _).2⟩
    | true =>
      go_wp2_with fail
      refine (refChangesFine_of _ d _ w1 (g.call (hX.low.trans (b1.mono (by omega)))) hf).mono ?_; rintro e w2 ⟨rfl, d2⟩
      have bB2 := b1.trans (d2.below.mono b1.size)
      obtain ⟨y0, y1, y2, y3, yf⟩ := hX.on bB2
      by_cases hl0 : d.length = 0
      · have HP := keepBack (HJ.out.trans (putN_same hf hl0))
        have hl0i : (d.length : Int) = 0 := by omega
        clear hl0
        go_wp2_with fail
        refine bodyPost_ret (repoResults rfl _ _ _ _ _ _ _ rfl rfl (hX.fin bB2 _ _).1) rfl ?_
        exact ⟨_, rfl, RefRet.no HP.out, (hX.fin bB2 _ _).2⟩
      · have hl0' : (d.length : Int) ≠ 0 := by omega
        by_cases h14 : cs.length = 14
        · have HP := keepBack (HJ.out.trans (putN_many hf hl0 h14))
          have h14i : ((cs.length : Nat) : Int) = 14 := by omega
          clear h14
          go_wp2_with fail
          refine bodyPost_ret (repoResults rfl _ _ _ _ _ _ _ rfl rfl (hX.fin bB2 _ _).1) rfl ?_
          exact ⟨_, rfl, RefRet.no HP.out, (hX.fin bB2 _ _).2⟩
        · have h14' : ((cs.length : Nat) : Int) ≠ 14 := by omega
          obtain ⟨c, hcn⟩ : ∃ c, cs[n]? = some c := ⟨cs[n], List.getElem?_eq_getElem hn⟩
          have hrn : rowsN cs n = c.1 := rowsN_is hcn
          have HBAD := keepBack fun h3 => HJ.out.trans (putN_bad (r := (cs, hs)) (s := s) (n := n) hf hl0 (by exact h14) h3)
          have HOK := keepBack fun h3 => HJ.out.trans (putN_ok (r := (cs, hs)) (s := s) (n := n) hf hl0 (by exact h14) h3)
          simp only [hrn] at HBAD HOK
          obtain ⟨rs, ps⟩ := c
          have HH := keepBack hcn
          clear hcn hrn HJ
          simp only at HBAD HOK
          have hnl : (n : Int) < cs.length := by omega
          have b02 := hX.low.trans (bB2.mono (by omega))
          obtain ⟨bc, oc, cr, cp, dr, dp, hixc, _, hbc, hrr, hpp, _, _, _, _, hc0, hc1⟩ := (hc.call b02).idxCommitAt aCom n n rfl hn rs ps (by have := List.getElem?_eq_some_iff.1 HH.out; exact this.2)
          go_wp2_with fail
          refine (refPatchOf _ _ rs d _ _ w2 hrr (g.call b02)).mono ?_; rintro e w3 ⟨_, rfl, ⟨x3, rfl, hx3⟩, b3⟩
          have z2 := bB2.size
          have bB3 := bB2.trans (b3.mono z2)
          have z3 := bB3.size
          obtain ⟨y0, y1, y2, y3, yf⟩ := hX.on bB3
          by_cases h3 : (patchP rs d).2 = 0
          · have HP := keepBack (HOK.out h3)
            obtain ⟨a3, c3, rfl, _, _, _⟩ := hx3.shape
            generalize hl3 : (patchP rs d).1 = l3 at *
            clear hl3
            have hkk : headK hs s = some (hdN hs s) := headK_at hrk hhd
            have hHK := keepBack hkk
            clear hkk
            go_wp2_with fail
            have KS : ∀ W, Below wB.heap.size wB W → W.cell? ⟨w.heap.size, 0, none⟩ = some (.slice ac cs.length cc) ∧ W.cell? ⟨w.heap.size, 1, none⟩ = some (.slice ah hs.length ch) := fun W hW => ⟨(hX.on hW).1, (hX.on hW).2.1⟩
            have bD : Below w3.heap.size w3 w3.drew := (Below.refl _ _).drew
            have bA := bD.alloc bD.size (.cells #[.int .i64 n] 3)
            have hnk : i64ok (n : Int) := by unfold i64ok; omega
            have GR : ∀ (W : World) (g : Nat), Below w3.heap.size w3 W → Sl tInt W (fun k => w3.heap.size ≤ k) (.slice (some ⟨g, 0, none⟩) 1 1) [(n : Int)] → Calls Tryz.prog 86 #[.agg #[.slice ac cs.length cc, .slice ah hs.length ch], .int .i64 (hdN hs s : Nat), .slice a3 l3.length c3, .slice (some ⟨g, 0, none⟩) 1 1] W (Ret W fun x W' => Rp W' (fun k => w.heap.size ≤ k ∧ k ≠ w.heap.size + 1) x (grown (cs, hs) (hdN hs s) l3 [(n : Int)])) := fun W g hW hL =>
              have zW := hW.size
              refGrown _ _ _ (cs, hs) (hdN hs s) x l3 [(n : Int)] S _ _ (fun k => w.heap.size ≤ k ∧ k ≠ w.heap.size + 1) W (fun k hk => by omega) (fun k hk _ => by omega) (fun k hk _ => by omega) (hRB.call (bB3.trans (hW.mono z3))) (by show cs.length ≤ 1000; omega) (by show hs.length ≤ 1000; omega) hfew.2.2 HX.out (hx3.call hW) hL
            go_region_held3 (fun W => W.cell? ⟨w.heap.size, 0, none⟩ = some (.slice ac cs.length cc) ∧ W.cell? ⟨w.heap.size, 1, none⟩ = some (.slice ah hs.length ch))
              (first
                | exact KS _ bB3.drew
                | exact KS _ bB3
                | exact KS _ (bB3.trans (bA.mono z3))
                | exact hX.held (by assumption) _ _
                | exact KS _ (by assumption)
                | fail)
              (first
                | (go_at_call 81; refine (refHeadAt_of (c := some (hdN hs s)) _ (cs, hs) s S _ (hRB.call (bB3.trans (bD.mono z3))) hHK.out).mono ?_; rintro e w4 ⟨_, rfl, rfl, b4⟩; rw [show atI (some (hdN hs s)) = ((hdN hs s : Nat) : Int) from rfl]; have b34 := bD.trans (b4.mono bD.size); have bB4 := bB3.trans (b34.mono z3); have b3A := b34.alloc b34.size (.cells #[.int .i64 n] 3); have bBA := bB4.alloc bB4.size (.cells #[.int .i64 n] 3))
                | (go_at_call 81; refine (refHeadAt_of (c := some (hdN hs s)) _ (cs, hs) s S _ (hRB.call (bB3.trans (bA.mono z3))) hHK.out).mono ?_; rintro e w4 ⟨_, rfl, rfl, b4⟩; rw [show atI (some (hdN hs s)) = ((hdN hs s : Nat) : Int) from rfl]; have b3A := bA.trans (b4.mono bA.size); have bBA := bB3.trans (b3A.mono z3))
                | (go_at_call 86; first | (refine (GR _ _ b3A (((litOne w3.drew n hnk).mono fun k hk _ => by simpa using hk).call b4)).mono ?_; rintro e w5 ⟨_, rfl, hR5, b5⟩; have bB5 := bBA.trans (b5.mono bBA.size); obtain ⟨vx, vy, rfl, hx5, hy5⟩ := hR5; obtain ⟨ax, cx, rfl, _, _, _⟩ := hx5.shape; obtain ⟨ay, cy, rfl, _, _, _⟩ := hy5.shape; generalize (grown (cs, hs) (hdN hs s) l3 [(n : Int)]).1.length = nx at *; generalize (grown (cs, hs) (hdN hs s) l3 [(n : Int)]).2.length = ny at *; clear y0 y1 y2 y3 yf; obtain ⟨y0, y1, y2, y3, yf⟩ := hX.on bB5) | (refine (GR _ _ b3A ((litOne w4 n hnk).mono fun k hk _ => by have := b34.size; omega)).mono ?_; rintro e w5 ⟨_, rfl, hR5, b5⟩; have bB5 := bBA.trans (b5.mono bBA.size); obtain ⟨vx, vy, rfl, hx5, hy5⟩ := hR5; obtain ⟨ax, cx, rfl, _, _, _⟩ := hx5.shape; obtain ⟨ay, cy, rfl, _, _, _⟩ := hy5.shape; generalize (grown (cs, hs) (hdN hs s) l3 [(n : Int)]).1.length = nx at *; generalize (grown (cs, hs) (hdN hs s) l3 [(n : Int)]).2.length = ny at *; clear y0 y1 y2 y3 yf; obtain ⟨y0, y1, y2, y3, yf⟩ := hX.on bB5))
                | fail)
            all_goals
              clear y0 y1 y2 y3 yf KS GR bA bD
              have hfin := hX.fin bB5 (.slice ax nx cx) (.slice ay ny cy)
              go_wp2_with fail
              refine bodyPost_ret (repoResults rfl _ _ _ _ _ _ _ rfl rfl hfin.1) rfl ?_
              refine ⟨_, rfl, ?_, hfin.2⟩
              rw [HP.out]
              exact ⟨_, rfl, rpAny ⟨_, _, rfl, hx5, hy5⟩⟩
          · have HP := keepBack (HBAD.out h3)
            go_wp2_with fail
            refine bodyPost_ret (repoResults rfl _ _ _ _ _ _ _ rfl rfl (hX.fin bB3 _ _).1) rfl ?_
            exact ⟨_, rfl, RefRet.no HP.out, (hX.fin bB3 _ _).2⟩
  · have HP := keepBack (jPut_bad (d := d) he)
    have hq : ((headP (cs, hs) s).2 != 0) = true := by simp [he]
    go_enter Tryz.func78, Tryz.ntmps78
    go_wp2_with fail
    rw [← HWB.out]
    refine (refHeadOf _ (cs, hs) s S wB hRB).mono ?_; rintro e w1 ⟨_, rfl, rfl, b1⟩
    obtain ⟨y0, y1, y2, y3, yf⟩ := hX.on b1
    go_wp2_with fail
    refine bodyPost_ret (repoResults rfl _ _ _ _ _ _ _ rfl rfl (hX.fin b1 _ _).1) rfl ?_
    exact ⟨_, rfl, RefRet.no HP.out, (hX.fin b1 _ _).2⟩
end Go.Pch
end
