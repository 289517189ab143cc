/- A repo in a variable, of the call's own; the walk of the document's grown. The walks of the document's ChangesFine and SameChanges. The walks of rows.Put, and of what the document says of Find and Put: valueOf, spread, folded. -/
import Derived.Test.YtjjkdpjjaijmbaaGreatDoorDg25
import Derived.Test.YtjjkdpjjaijmbaaGreatDoorDg13
import Derived.Test.YtjjkdpjjaijmbaaGreatDoorDg12
import Derived.Test.YtjjkdpjjaijmbaaGreatDoorDg16
import Derived.Laws.Rows
import Derived.Laws.Tables
section
namespace Go.Pch
open Go.RowKit Go.Proofs
set_option maxRecDepth 100000
structure OutAt (Z : Blk) (w : World) (B db : Nat) (vc vh : Value) (r : Repo) : Prop where
  low : B ≤ db
  row : w.heap[db]? = some (.cells #[vc, vh] 33)
  coms : Own tCommit 59 w B (fun k => (Z k ∧ some k ≠ vh.ownBlock) ∧ k ≠ db) vc r.1
  heads : Own tHead 61 w B (fun _ => False) vh r.2
theorem OutAt.apart {Z : Blk} {w : World} {B db : Nat} {vc vh : Value} {r : Repo} (h : OutAt Z w B db vc vh r) : vc.ownBlock ≠ some db ∧ vh.ownBlock ≠ some db ∧ ∀ g, vc.ownBlock = some g → vh.ownBlock ≠ some g := by
  refine ⟨fun e => ?_, fun e => ?_, fun g e f => ?_⟩
  · obtain ⟨cur, hc⟩ := h.coms.rowAt _ e
    rw [h.row] at hc
    simp at hc
  · obtain ⟨cur, hc⟩ := h.heads.rowAt _ e
    rw [h.row] at hc
    simp at hc
  · obtain ⟨cur, hc⟩ := h.coms.rowAt _ e
    obtain ⟨cur', hc'⟩ := h.heads.rowAt _ f
    rw [hc] at hc'
    simp at hc'
theorem OutAt.lt {Z : Blk} {w : World} {B db : Nat} {vc vh : Value} {r : Repo} (h : OutAt Z w B db vc vh r) : db < w.heap.size := (Array.getElem?_eq_some_iff.1 h.row).1
theorem OutAt.call {Z : Blk} {w w' : World} {B db : Nat} {vc vh : Value} {r : Repo} (h : OutAt Z w B db vc vh r) (hb : Below w.heap.size w w') : OutAt Z w' B db vc vh r := ⟨h.low, (hb.block db h.lt).trans h.row, h.coms.call hb, h.heads.call hb⟩
theorem OutAt.cell0 {Z : Blk} {w : World} {B db : Nat} {vc vh : Value} {r : Repo} (h : OutAt Z w B db vc vh r) : w.cell? ⟨db, 0, none⟩ = some vc := by rw [World.cell?, h.row]; rfl
theorem OutAt.cell1 {Z : Blk} {w : World} {B db : Nat} {vc vh : Value} {r : Repo} (h : OutAt Z w B db vc vh r) : w.cell? ⟨db, 1, none⟩ = some vh := by rw [World.cell?, h.row]; rfl
theorem OutAt.free {Z : Blk} {w : World} {B db : Nat} {vc vh : Value} {r : Repo} (h : OutAt Z w B db vc vh r) (i : Nat) : w.frozen? ⟨db, i, none⟩ = false := frozen_of_row w db i _ _ h.row
theorem OutAt.setC {Z : Blk} {w w' : World} {B db : Nat} {vc vc' vh : Value} {r : Repo} {l : List Commit} (h : OutAt Z w B db vc vh r) (ho : Own tCommit 59 w' B (fun k => (Z k ∧ some k ≠ vh.ownBlock) ∧ k ≠ db) vc' l) (hg : w.grownBy w' vc.ownBlock) :
    OutAt Z (w'.setCell ⟨db, 0, none⟩ vc') B db vc' vh (l, r.2) := by
  have hap := h.apart
  have hrow : w'.heap[db]? = some (.cells #[vc, vh] 33) := (hg.block db h.lt fun e => hap.1 e.symm).trans h.row
  have hn : vc'.ownBlock ≠ some db := fun e => by
    obtain ⟨cur, hc⟩ := ho.rowAt _ e
    rw [hrow] at hc
    simp at hc
  refine ⟨h.low, heap_setCell_same w' db 0 _ _ vc' hrow, ho.keep fun k hk _ => heap_setCell_other _ _ _ _ ?_, (h.heads.keep (w' := w') fun k hk hlt => hg.block k hlt ?_).keep fun k hk _ => heap_setCell_other _ _ _ _ ?_⟩
  · rcases hk with hk | hk
    · exact hk.2
    · intro e; exact hn (by rw [hk, e])
  · rcases hk with hk | hk
    · exact hk.elim
    · intro e; exact hap.2.2 k e.symm hk
  · rcases hk with hk | hk
    · exact hk.elim
    · intro e; exact hap.2.1 (by rw [hk, e])
theorem OutAt.rowOf {Z : Blk} {w w' : World} {B db : Nat} {vc vh : Value} {r : Repo} (h : OutAt Z w B db vc vh r) (hg : w.grownBy w' vc.ownBlock) : w'.heap[db]? = some (.cells #[vc, vh] 33) :=
  (hg.block db h.lt fun e => h.apart.1 e.symm).trans h.row
theorem OutAt.setH {Z : Blk} {w : World} {B db g n c k : Nat} {vc : Value} {r : Repo} {x : Head} {m : Int} (h : OutAt Z w B db vc (.slice (some ⟨g, 0, none⟩) n c) r) (hx : r.2[k]? = some x) (hm : i64ok m) :
    OutAt Z (w.setCell ⟨g, k * 2 + 1, none⟩ (.int .i64 m)) B db vc (.slice (some ⟨g, 0, none⟩) n c) (r.1, r.2.set k (x.1, m)) := by
  have hap := h.apart
  obtain ⟨g', cap, cs, hv, h1, h2, h3, h4, hrd, hcell, hf, hset⟩ := h.heads.setPart hx
  simp only [Value.slice.injEq, Option.some.injEq, Addr.mk.injEq, and_true] at hv
  obtain ⟨rfl, hn, rfl⟩ := hv
  obtain ⟨rfl, hok⟩ := hrd
  have hgd : db ≠ g := fun e => hap.2.1 (by rw [e]; rfl)
  refine ⟨h.low, (heap_setCell_other _ _ _ _ hgd).trans h.row, h.coms.keep fun k hk _ => heap_setCell_other _ _ _ _ ?_, ?_⟩
  · rcases hk with hk | hk
    · intro e; exact hk.1.2 (by rw [e]; rfl)
    · intro e; exact hap.2.2 k hk (by rw [e]; rfl)
  · exact hset 1 (.int .i64 m) (x.1, m) (by decide) ⟨rfl, hm, hok.2⟩
set_option maxHeartbeats 1000000 in
theorem refGrown (v vr vp : Value) (r : Repo) (k : Nat) (x : Head) (rows : List Row) (ps : List Int) (S S' S2 Z : Blk) (w : World) (hz : ∀ k, w.heap.size ≤ k → Z k) (hz1 : ∀ k, S' k → k < w.heap.size → Z k) (hz2 : ∀ k, S2 k → k < w.heap.size → Z k) (h : Rp w S v r) (h1 : r.1.length ≤ 1000) (h2 : r.2.length ≤ 1000) (h3 : ∀ c ∈ r.1, c.1.length ≤ 1000 ∧ c.2.length ≤ 1000) (hx : r.2[k]? = some x) (hr : Sl tRow w S' vr rows) (hp : Sl tInt w S2 vp ps) :
    Calls Tryz.prog 86 #[v, .int .i64 k, vr, vp] w (Ret w fun x W => Rp W Z x (grown r k rows ps)) := by
  have hR := h
  obtain ⟨cs, hs⟩ := r
  obtain ⟨vc, vh, rfl, hc, hh⟩ := h
  obtain ⟨ac, cc, rfl, _, _, _⟩ := hc.shape
  obtain ⟨ah, ch, rfl, _, _, hhn⟩ := hh.shape
  obtain ⟨ar, cr, rfl, _, _, _⟩ := hr.shape
  obtain ⟨ap, cp, rfl, _, _, _⟩ := hp.shape
  simp only at hc hh h1 h2 h3 hx
  have hX := boxAt w (.slice ac cs.length cc) (.slice ah hs.length ch)
  obtain ⟨wB, hwB⟩ : ∃ wB, wB = (w.alloc (.cells #[.slice ac cs.length cc, .slice ah hs.length ch] 33)).alloc (.cells #[.slice none 0 0, .slice none 0 0] 33) := ⟨_, rfl⟩
  rw [← hwB] at hX
  have HWB := keepBack hwB
  clear hwB
  have zB := hX.size
  have hl0 : 0 < hs.length := by have := (List.getElem?_eq_some_iff.1 hx).1; omega
  have hkl := (List.getElem?_eq_some_iff.1 hx).1
  have HMV : Hid (moved hs k cs.length = hs.set k (x.1, (cs.length : Int))) := keepBack (moved_is hx cs.length)
  have HX := keepBack hx
  clear hx
  go_enter Tryz.func86, Tryz.ntmps86
  go_wp2_with fail
  rw [← HWB.out]
  refine (refOwn _ (cs, hs) S wB (hR.call hX.low) h1 h2 h3).mono ?_; rintro e w1 ⟨_, rfl, ⟨vc1, vh1, rfl, hO⟩, b1⟩
  have z1 := b1.size
  have hD : OutAt (fun k => Z k ∧ k ≠ w.heap.size + 1) (w1.alloc (.cells #[vc1, vh1] 33)) wB.heap.size w1.heap.size vc1 vh1 (cs, hs) := ⟨b1.size, heap_alloc_new _ _, (hO.coms.mono fun k hk hlt => ⟨⟨⟨hz k (by omega), by omega⟩, hk.2⟩, by omega⟩).alloc _, hO.heads.alloc _⟩
  have bB2 : Below wB.heap.size wB (w1.alloc (.cells #[vc1, vh1] 33)) := b1.alloc b1.size _
  obtain ⟨av, cv, rfl, _, _⟩ := hO.coms.shape
  obtain ⟨g1, c1, cur, xs, rfl, hg1, _, _, _, _, _, _, _⟩ := hO.heads.cells hl0
  have d0 := hD.cell0
  have d1 := hD.cell1
  have df := hD.free 0
  have hap := hD.apart
  clear hO
  obtain ⟨w2, hw2⟩ : ∃ w2, w2 = w1.alloc (.cells #[.slice av cs.length cv, .slice (some ⟨g1, 0, none⟩) hs.length c1] 33) := ⟨_, rfl⟩
  rw [← hw2] at hD bB2
  have z2 : w2.heap.size = w1.heap.size + 1 := by rw [hw2]; simp
  have oA := (Below.refl w2.heap.size w2).alloc (Nat.le_refl _) (.cells #[.slice ar rows.length cr, .slice ap ps.length cp] 59)
  have hDA := hD.call oA
  have bBA := bB2.trans (oA.mono bB2.size)
  have b0A := hX.low.trans (bBA.mono (by omega))
  have hsrc : Src tCommit (w2.alloc (.cells #[.slice ar rows.length cr, .slice ap ps.length cp] 59)) (fun k => k < w.heap.size ∧ Z k) (some ⟨w1.heap.size + 1, 0, none⟩) [(rows, ps)] := by
    have := Src.one (E := tCommit) (w := w2) (tCommit_mk ((hr.mono (S' := fun k => k < w.heap.size ∧ Z k) fun k hk hlt => ⟨hlt, hz1 k hk hlt⟩).call (hX.low.trans (bB2.mono (by omega)))) ((hp.mono (S' := fun k => k < w.heap.size ∧ Z k) fun k hk hlt => ⟨hlt, hz2 k hk hlt⟩).call (hX.low.trans (bB2.mono (by omega))))) 59
    rwa [z2] at this
  have HBV : ∀ g, (Value.slice av cs.length cv).ownBlock = some g → wB.heap.size ≤ g := fun g hg => (hD.coms.block g hg).1
  have HBA : wB.heap.size ≤ (w2.alloc (.cells #[.slice ar rows.length cr, .slice ap ps.length cp] 59)).heap.size := bBA.size
  rw [hw2] at hDA hsrc HBA
  have HW2 := keepBack hw2
  clear hw2
  go_wp2_with (at_builtin; refine wpList_grow rfl (.tmp 13) (.tmp 17) rfl aCom rfl hDA.coms rfl rfl hsrc (by simp) (fun k hk _ => ⟨⟨⟨⟨hk.2, by omega⟩, fun e => by simp [Value.ownBlock] at e; omega⟩, by omega⟩, fun e => by have := HBV k e.symm; omega⟩) (by simp; omega) HBA ?_)
  intro v3 w3 ho3 hg3
  have ho3' : Own tCommit 59 w3 wB.heap.size (fun k => ((Z k ∧ k ≠ w.heap.size + 1) ∧ some k ≠ (Value.slice (some ⟨g1, 0, none⟩) hs.length c1).ownBlock) ∧ k ≠ w1.heap.size) v3 (cs ++ [(rows, ps)]) := by
    rw [zB]
    exact ho3.mono fun k hk _ => ⟨⟨hk.1.1, hk.1.2⟩, hk.2⟩
  have hD3 := hDA.setC ho3' hg3
  have row3 := hDA.rowOf hg3
  have f3 := frozen_of_row w3 w1.heap.size 0 _ _ row3
  have c3 : w3.cell? ⟨w1.heap.size, 0, none⟩ = some (.slice av cs.length cv) := by rw [World.cell?, row3]; rfl
  rw [← HW2.out] at hg3
  have bB3 : Below wB.heap.size wB w3 := bBA.grown hg3 bBA.size HBV
  obtain ⟨a3, cp3, hv3, _, _⟩ := ho3'.shape
  rw [show (cs ++ [(rows, ps)]).length = cs.length + 1 by simp] at hv3
  subst hv3
  obtain ⟨w4, hw4⟩ : ∃ w4, w4 = w3.setCell ⟨w1.heap.size, 0, none⟩ (.slice a3 (cs.length + 1) cp3) := ⟨_, rfl⟩
  have bB4 : Below wB.heap.size wB w4 := by rw [hw4]; exact bB3.setCell (p := ⟨w1.heap.size, 0, none⟩) z1 _
  rw [← hw4] at hD3
  have d0 := hD3.cell0
  have d1 := hD3.cell1
  have hF := hD3.setH HX.out (m := (cs.length : Int)) (by unfold i64ok; omega)
  obtain ⟨g', cap, csx, hv, _, _, _, _, ⟨rfl, _⟩, hcell, hfz, _⟩ := hD3.heads.setPart HX.out
  simp only [Value.slice.injEq, Option.some.injEq, Addr.mk.injEq, and_true] at hv
  have c41 : w4.cell? ⟨g1, k * 2 + 1, none⟩ = some (.int .i64 x.2) := by rw [hv.1]; exact hcell 1 _ rfl
  have f41 : w4.frozen? ⟨g1, k * 2 + 1, none⟩ = false := by rw [hv.1]; exact hfz _
  have e50 := hF.cell0
  have e51 := hF.cell1
  have bB6 : Below wB.heap.size wB (w4.setCell ⟨g1, k * 2 + 1, none⟩ (.int .i64 cs.length)) := bB4.setCell hg1 _
  obtain ⟨y0, y1, y2, y3, yf⟩ := hX.on bB6
  have hix : ∀ W, Sem.run Tryz.prog (Instr.indexAt 31 (.slice (some ⟨g1, 0, none⟩) hs.length c1) (.int .i64 k)) W = .ok (.pointer (some ⟨g1, k * 2, none⟩)) W := fun W => by
    have := run_idx (T := 31) aHead (b := g1) (o := 0) (len := hs.length) (cap := c1) (k : Int) k rfl hkl W
    rwa [Nat.zero_add] at this
  have hwr : IntKind.i64.wrap (cs.length : Int) = (cs.length : Int) := by rw [IntKind.wrap_i64]; omega
  have hkI : (k : Int) < hs.length := by omega
  have hR6 : Rp (w4.setCell ⟨g1, k * 2 + 1, none⟩ (.int .i64 cs.length)) (fun k => Z k ∧ k ≠ w.heap.size + 1) (.agg #[.slice a3 (cs.length + 1) cp3, .slice (some ⟨g1, 0, none⟩) hs.length c1]) (grown (cs, hs) k rows ps) := by
    refine ⟨_, _, rfl, hF.coms.sl (fun _ hk => hk.1.1) (fun k hk => ⟨hz k (by omega), by omega⟩), ?_⟩
    have := hF.heads.sl (D := fun k => Z k ∧ k ≠ w.heap.size + 1) (fun _ hk => hk.elim) (fun k hk => ⟨hz k (by omega), by omega⟩)
    show Sl tHead _ _ _ (moved hs k cs.length)
    rw [HMV.out]
    exact this
  have HW4 := keepBack hw4
  rw [hw4] at d0 d1 c41 f41 e50 e51 y0 y1 y2 y3 yf
  clear hw4 ho3 ho3' hg3 hcell hfz hD3 hDA hD hv
  go_wp2_with fail
  rw [← HW4.out]
  have hfin := hX.fin bB6 (.slice a3 (cs.length + 1) cp3) (.slice (some ⟨g1, 0, none⟩) hs.length c1)
  have hR7 : Rp (((w4.setCell ⟨g1, k * 2 + 1, none⟩ (.int .i64 cs.length)).setCell ⟨w.heap.size + 1, 0, none⟩ (.slice a3 (cs.length + 1) cp3)).setCell ⟨w.heap.size + 1, 1, none⟩ (.slice (some ⟨g1, 0, none⟩) hs.length c1)) Z (.agg #[.slice a3 (cs.length + 1) cp3, .slice (some ⟨g1, 0, none⟩) hs.length c1]) (grown (cs, hs) k rows ps) := by
    obtain ⟨_, _, hv, q1, q2⟩ := hR6.keep (w' := ((w4.setCell ⟨g1, k * 2 + 1, none⟩ (.int .i64 cs.length)).setCell ⟨w.heap.size + 1, 0, none⟩ (.slice a3 (cs.length + 1) cp3)).setCell ⟨w.heap.size + 1, 1, none⟩ (.slice (some ⟨g1, 0, none⟩) hs.length c1)) fun q hq _ => (heap_setCell_other _ _ _ _ hq.2).trans (heap_setCell_other _ _ _ _ hq.2)
    exact ⟨_, _, hv, q1.mono fun _ hk _ => hk.1, q2.mono fun _ hk _ => hk.1⟩
  exact bodyPost_ret (results_cell_row rfl _ _ _ _ _ _ _ rfl hfin.1 Tryz.underlying33 rfl rfl) rfl ⟨_, rfl, hR7, hfin.2⟩
end Go.Pch
end

section
namespace Go.Pch
open Go.RowKit Go.Proofs
set_option maxRecDepth 100000
def prevC (l : List Change) (k : Nat) : Int := if k = 0 then -1 else ((l[k-1]?).getD (0, 0, 0)).1
set_option maxHeartbeats 8000000 in
theorem refChangesFine (v : Value) (l : List Change) (S : Blk) (w : World) (h : Sl tChange w S v l) :
    Calls Tryz.prog 114 #[v] w (Quiet w (.bool (fineC (-1) l))) := by
  have hv := h
  obtain ⟨ao, cap, rfl, hcap, hmax, hnil⟩ := h.shape
  unfold maxLen at hmax
  clear hnil
  go_enter Tryz.func114, Tryz.ntmps114
  go_wp2
  go_loopw [3] (fun i wr => ∃ (k : Nat), k ≤ l.length ∧ i = .int .i64 k ∧ Drawn w wr ∧ Hid (fineC (-1) l = fineC (prevC l k) (l.drop k)) ∧ Hid (-1 ≤ prevC l k)) (fun i _ => l.length - (intOf i).toNat)
  case atStart => exact ⟨0, Nat.zero_le _, rfl, .refl _, keepBack rfl, keepBack (by simp [prevC])⟩
  case round =>
    obtain ⟨k, hk, rfl, hd, hr, hp⟩ := hrel
    by_cases hlt : k < l.length
    · obtain ⟨b, o, hix, _, hbs, ok1, ok2, ok3, hc0, hc1, hc2⟩ := (hv.call hd.below).idxChg aChg k k rfl hlt
      go_wp2_with fail
      cases hkb : keyB l[k].1 with
      | false =>
        have hno := keepBack (key_not hkb)
        go_quiet ((go_at_call 76; exact quietEq (refIsKey_of _ _ hkb)))
        go_wp2
        go_ret
        exact ⟨by rw [hr.out, fineC_stop hlt (by have := hno.out; have := hp.out; omega)]; rfl, hd.next _⟩
      | true =>
        have hyes := keepBack (key_yes hkb)
        cases hv1 : (decide (-1 ≤ l[k].2.1) && decide (l[k].2.1 ≤ 996)) with
        | false =>
          go_quiet ((first | (go_at_call 76; exact quietEq (refIsKey_of _ _ hkb)) | (go_at_call 75; exact quietEq (refWithin_of _ _ _ _ hv1))))
          go_wp2
          go_ret
          exact ⟨by rw [hr.out, fineC_stop hlt (.inr (.inr (.inl hv1)))]; rfl, hd.next _⟩
        | true =>
          cases hv2 : (decide (-1 ≤ l[k].2.2) && decide (l[k].2.2 ≤ 996)) with
          | false =>
            go_quiet ((first | (go_at_call 76; exact quietEq (refIsKey_of _ _ hkb)) | (go_at_call 75; exact quietEq (refWithin_of _ _ _ _ hv1)) | (go_at_call 75; exact quietEq (refWithin_of _ _ _ _ hv2))))
            go_wp2
            go_ret
            exact ⟨by rw [hr.out, fineC_stop hlt (.inr (.inr (.inr (.inl hv2))))]; rfl, hd.next _⟩
          | true =>
            by_cases hq : l[k].2.1 = l[k].2.2
            · have HQ := keepBack hq
              have b3 : (l[k].2.1 == l[k].2.2) = true := by simpa using hq
              clear hq
              go_quiet ((first | (go_at_call 76; exact quietEq (refIsKey_of _ _ hkb)) | (go_at_call 75; exact quietEq (refWithin_of _ _ _ _ hv1)) | (go_at_call 75; exact quietEq (refWithin_of _ _ _ _ hv2))))
              go_wp2
              go_ret
              exact ⟨by rw [hr.out, fineC_stop hlt (.inr (.inr (.inr (.inr HQ.out))))]; rfl, hd.next _⟩
            · have HQ := keepBack hq
              have b3 : (l[k].2.1 == l[k].2.2) = false := by simpa using hq
              clear hq
              by_cases hk0 : k = 0
              · have hk1 : decide ((0 : Int) < k) = false := by simp; omega
                have hk1' : decide (0 < k) = false := by simp; omega
                have hgo : fineC (prevC l k) (l.drop k) = fineC l[k].1 (l.drop (k + 1)) := fineC_go hlt ⟨⟨by have := hyes.out; simp [prevC, hk0]; simp [hk0] at this; omega, hyes.out.2⟩, hv1, hv2, HQ.out⟩
                have Hgo := keepBack hgo
                have hk2 : k ≤ 0 := by omega
                clear hk0 hgo
                go_quiet ((first | (go_at_call 76; exact quietEq (refIsKey_of _ _ hkb)) | (go_at_call 75; exact quietEq (refWithin_of _ _ _ _ hv1)) | (go_at_call 75; exact quietEq (refWithin_of _ _ _ _ hv2))))
                go_wp2
                go_roundw
                case rel => exact ⟨k + 1, by omega, by go_num, hd.next _, keepBack (by rw [hr.out, Hgo.out, prevC, if_neg (by omega), Nat.add_sub_cancel, List.getElem?_eq_getElem hlt]; rfl), keepBack (by have := hyes.out; rw [prevC, if_neg (by omega), Nat.add_sub_cancel, List.getElem?_eq_getElem hlt]; show -1 ≤ l[k].1; omega)⟩
                case measure => simp [intOf]; omega
              · have hk1 : decide ((0 : Int) < k) = true := by simp; omega
                have hk1' : decide (0 < k) = true := by simp; omega
                obtain ⟨b', o', hix', _, hbs', ok1', ok2', ok3', hc0', hc1', hc2'⟩ := (hv.call hd.below).idxChg aChg (k - 1) (k - 1) (by omega) (by omega)
                have Hpv : Hid (prevC l k = l[k-1].1) := keepBack (by rw [prevC, if_neg hk0, List.getElem?_eq_getElem (by omega)]; rfl)
                by_cases hle : l[k].1 ≤ l[k - 1].1
                · have HL := keepBack hle
                  have b4 : decide (l[k].1 ≤ l[k - 1].1) = true := by simpa using hle
                  clear hle
                  go_quiet ((first | (go_at_call 76; exact quietEq (refIsKey_of _ _ hkb)) | (go_at_call 75; exact quietEq (refWithin_of _ _ _ _ hv1)) | (go_at_call 75; exact quietEq (refWithin_of _ _ _ _ hv2))))
                  go_wp2
                  go_ret
                  exact ⟨by rw [hr.out, fineC_stop hlt (.inl (by rw [Hpv.out]; exact HL.out))]; rfl, hd.next _⟩
                · have HL := keepBack hle
                  have b4 : decide (l[k].1 ≤ l[k - 1].1) = false := by simpa using hle
                  clear hle
                  go_quiet ((first | (go_at_call 76; exact quietEq (refIsKey_of _ _ hkb)) | (go_at_call 75; exact quietEq (refWithin_of _ _ _ _ hv1)) | (go_at_call 75; exact quietEq (refWithin_of _ _ _ _ hv2))))
                  go_wp2
                  go_roundw
                  case rel => exact ⟨k + 1, by omega, by go_num, hd.next _, keepBack (by rw [hr.out, fineC_go hlt ⟨⟨by rw [Hpv.out]; have := HL.out; omega, hyes.out.2⟩, hv1, hv2, HQ.out⟩, prevC, if_neg (by omega), Nat.add_sub_cancel, List.getElem?_eq_getElem hlt]; rfl), keepBack (by have := hyes.out; rw [prevC, if_neg (by omega), Nat.add_sub_cancel, List.getElem?_eq_getElem hlt]; show -1 ≤ l[k].1; omega)⟩
                  case measure => simp [intOf]; omega
    · go_wp2
      go_ret
      exact ⟨by rw [hr.out, fineC_end hlt]; rfl, hd⟩
end Go.Pch
end

section
namespace Go.Pch
open Go.RowKit Go.Proofs
def tabL (x : Int → Int) : List Value := (List.range 100).map fun (k : Nat) => .int .i64 (x (k : Int))
theorem tabL_len (x : Int → Int) : (tabL x).length = 100 := by simp [tabL]
theorem tabL_get (x : Int → Int) (k : Nat) (h : k < 100) : (tabL x)[k]? = some (.int .i64 (x (k : Int))) := by simp [tabL, h]
theorem refValueOf (v : Value) (l : List Row) (key : Int) (S : Blk) (w : World) (h : Sl tRow w S v l) :
    Calls Tryz.prog 77 #[v, .int .i64 key] w (fun e w' => e = .returned (.int .i64 (valueOf l key)) ∧ w = w') := by
  have hv := h.old
  obtain ⟨ao, cap, rfl, hcap, hmax, hnil⟩ := h.shape
  unfold maxLen at hmax
  go_enter Tryz.func77, Tryz.ntmps77
  go_wp2
  go_loop [5] (fun i => ∃ j : Nat, j ≤ l.length ∧ i = .int .i64 j ∧ Hid (valueOf l key = valueOf (l.drop j) key)) (fun i => l.length - (intOf i).toNat)
  case atStart => exact ⟨0, Nat.zero_le _, rfl, rfl⟩
  case round =>
    obtain ⟨j, hj, rfl, HV⟩ := hrel
    by_cases hlt : j < l.length
    · obtain ⟨b, o, hix, _, hbs, ok1, ok2, hc0, hc1⟩ := hv.idxRow aRow j j rfl hlt
      have HD := keepBack (List.drop_eq_getElem_cons hlt)
      generalize l[j] = r at *
      by_cases hk : r.1 = key
      · have HK : Hid (valueOf l key = r.2) := keepBack (by rw [HV.out, HD.out, valueOf, if_pos hk])
        have hq : (r.1 == key) = true := by simp [hk]
        clear hk
        go_wp2
        go_ret
        exact ⟨by rw [HK.out]; rfl, rfl⟩
      · have HK : Hid (valueOf l key = valueOf (l.drop (j + 1)) key) := keepBack (by rw [HV.out, HD.out, valueOf, if_neg hk])
        have hq : (r.1 == key) = false := by simp [hk]
        clear hk
        go_wp2
        go_round
        case rel => exact ⟨j + 1, by omega, by go_num, HK⟩
        case measure => simp [intOf]; omega
    · have HK : Hid (valueOf l key = -1) := keepBack (by rw [HV.out, List.drop_of_length_le (by omega)]; rfl)
      go_wp2
      go_ret
      exact ⟨by rw [HK.out]; rfl, rfl⟩
theorem tab_same {x y : Int → Int} (h : ∀ k : Int, 0 ≤ k → k < 100 → x k = y k) : tabL x = tabL y := by
  unfold tabL
  refine List.map_congr_left fun k hk => ?_
  rw [h k (by omega) (by have := List.mem_range.1 hk; omega)]
theorem tab_set (x : Int → Int) (i : Nat) (v : Int) (hi : i < 100) : (tabL x).toArray.setIfInBounds i (.int .i64 v) = (tabL fun k => if k = i then v else x k).toArray := by
  apply Array.ext'
  rw [Array.toList_setIfInBounds]
  change (tabL x).set i (.int .i64 v) = tabL (fun k => if k = (i : Int) then v else x k)
  apply List.ext_getElem?
  intro j
  by_cases hj : j < 100
  · rw [List.getElem?_set]
    by_cases h : i = j
    · subst h
      rw [if_pos rfl, if_pos (by rw [tabL_len]; exact hi), tabL_get _ i hj, if_pos rfl]
    · rw [if_neg h, tabL_get _ j hj, tabL_get _ j hj, if_neg (by omega)]
  · rw [List.getElem?_eq_none (by rw [List.length_set, tabL_len]; omega), List.getElem?_eq_none (by rw [tabL_len]; omega)]
theorem tab_ones (x : Int → Int) : (tabL x).toArray.all (·.oneCell') = true := by
  rw [Array.all_eq_true_iff_forall_mem]
  intro u hu
  simp [tabL] at hu
  obtain ⟨k, _, rfl⟩ := hu
  rfl
theorem tabSize : (Tryz.prog.info? 125).map (·.size) = some 100 := by kernel_rfl
theorem tabSize' (x : Int → Int) : (Tryz.prog.info? 125).map (·.size) = some (tabL x).toArray.size := by rw [tabSize]; simp [tabL_len]
def TabAt (w : World) (g : Nat) (x : Int → Int) : Prop := w.heap[g]? = some (.cells (tabL x).toArray 125)
theorem TabAt.cell {w : World} {g : Nat} {x : Int → Int} (h : TabAt w g x) (k : Nat) (hk : k < 100) : w.cell? ⟨g, k, none⟩ = some (.int .i64 (x k)) := by
  rw [World.cell?, h]
  simpa using tabL_get x k hk
theorem TabAt.free {w : World} {g : Nat} {x : Int → Int} (h : TabAt w g x) (k : Nat) : w.frozen? ⟨g, k, none⟩ = false := frozen_plain' h
theorem TabAt.lt {w : World} {g : Nat} {x : Int → Int} (h : TabAt w g x) : g < w.heap.size := (Array.getElem?_eq_some_iff.1 h).1
theorem TabAt.set {w : World} {g : Nat} {x : Int → Int} (h : TabAt w g x) (k : Nat) (hk : k < 100) (v : Int) : TabAt (w.setCell ⟨g, k, none⟩ (.int .i64 v)) g (fun j => if j = k then v else x j) := by
  unfold TabAt
  rw [← tab_set x k v hk]
  exact heap_setCell_same w g k _ _ _ h
theorem TabAt.other {w : World} {g : Nat} {x : Int → Int} (h : TabAt w g x) (a : Addr) (v : Value) (ha : g ≠ a.block) : TabAt (w.setCell a v) g x := (heap_setCell_other w a g v ha).trans h
theorem TabAt.same {w : World} {g : Nat} {x y : Int → Int} (h : TabAt w g x) (e : ∀ k : Int, 0 ≤ k → k < 100 → x k = y k) : TabAt w g y := by unfold TabAt; rw [← tab_same e]; exact h
set_option maxRecDepth 100000 in
set_option maxHeartbeats 1000000 in
theorem refSpread (v : Value) (l : List Row) (S : Blk) (w : World) (h : Sl tRow w S v l) :
    Calls Tryz.prog 89 #[v] w (Ret w fun r _ => r = .agg (tabL (valueOf l)).toArray) := by
  go_enter Tryz.func89, Tryz.ntmps89
  go_wp2_with fail
  go_loopw [4] (fun i wr => ∃ k : Nat, k ≤ 100 ∧ i = .int .i64 k ∧ Below w.heap.size w wr ∧ Hid (TabAt wr w.heap.size (fun _ => 0)) ∧ TabAt wr (w.heap.size + 1) (fun j => if j < k then valueOf l j else 0)) (fun i _ => 100 - (intOf i).toNat)
  case atStart =>
    refine ⟨0, by omega, rfl, ((Below.refl _ _).alloc (Nat.le_refl _) _).alloc (by simp) _, ?_, ?_⟩
    · exact (heap_alloc2_old w _ _).trans rfl
    · refine TabAt.same (x := fun _ => 0) ((heap_alloc2_new w _ _).trans rfl) fun k h0 h1 => ?_
      rw [if_neg (by simpa using h0)]
  case round =>
    obtain ⟨k, hk, rfl, hb, HT, ht⟩ := hrel
    have hs := hb.size
    by_cases hlt : k < 100
    · have hc := ht.cell k hlt
      have hf := ht.free k
      have HTT := keepBack ht
      clear ht
      go_wp2_with fail
      refine (refValueOf v l k S wr (h.call hb)).mono ?_; rintro e w' ⟨rfl, rfl⟩
      go_wp2
      go_roundw
      case rel =>
        refine ⟨k + 1, by omega, by go_num, hb.setCell (by simp) _, HT.out.other _ _ (by simp), ?_⟩
        refine (HTT.out.set k hlt (valueOf l k)).same fun j h0 h1 => ?_
        by_cases hj : j = k
        · rw [if_pos hj, if_pos (by omega), hj]
        · rw [if_neg hj]
          by_cases hjk : j < k
          · rw [if_pos hjk, if_pos (by omega)]
          · rw [if_neg hjk, if_neg (by omega)]
      case measure => simp [intOf]; omega
    · obtain rfl : k = 100 := by omega
      have ht' := ht.same (y := valueOf l) fun j h0 h1 => by
        show (if j < ((100 : Nat) : Int) then _ else _) = _
        rw [if_pos (by omega)]
      have hlt2 := ht'.lt
      have HTT := keepBack ht'
      have HSZ := keepBack (tabSize' (valueOf l))
      have HONE := keepBack (tab_ones (valueOf l))
      have hg1 : (wr.setRow w.heap.size (tabL (valueOf l)).toArray).heap[w.heap.size]? = some (.cells (tabL (valueOf l)).toArray 125) := setRow_heap wr _ _ _ _ _ HT.out
      have HG := keepBack hg1
      have HB := keepBack (show Below w.heap.size w (wr.setRow w.heap.size (tabL (valueOf l)).toArray) from below_setRow hb (Nat.le_refl _) _)
      have HLN := keepBack (show (tabL fun _ => 0).toArray.size = (tabL (valueOf l)).toArray.size by simp [tabL_len])
      clear ht ht' hg1 hk
      unfold TabAt at HT HTT
      obtain ⟨A, hA⟩ : ∃ A, A = (tabL (valueOf l)).toArray := ⟨_, rfl⟩
      rw [← hA] at HSZ HONE HG HB HLN HTT
      have HA := keepBack hA
      clear hA
      go_wp2_with (first
        | (refine wpList_load_row rfl 125 (.tmp 3) rfl (w.heap.size + 1) rfl _ _ _ _ HTT.out Tryz.underlying125 rfl HSZ.out ?_)
        | (refine wpList_store_row rfl 125 (.tmp 2) (.tmp 14) rfl w.heap.size A rfl rfl _ _ HT.out HSZ.out HLN.out HONE.out ?_))
      exact bodyPost_ret (v := .agg A) (results_cell_row rfl _ _ _ _ _ _ _ rfl HG.out Tryz.underlying125 rfl HSZ.out) rfl ⟨_, rfl, by rw [HA.out], HB.out⟩
abbrev tabV (x : Int → Int) : Value := .agg (tabL x).toArray
set_option maxRecDepth 100000 in
set_option maxHeartbeats 1000000 in
theorem refFolded (x : Int → Int) (w : World) (hx : ∀ k, -1 ≤ x k ∧ x k ≤ 996) :
    Calls Tryz.prog 118 #[tabV x] w (Ret w fun r w' => Sl tRow w' (fun k => w.heap.size ≤ k) r (folded x)) := by
  have HX := keepBack hx
  clear hx
  unfold tabV
  obtain ⟨A, hA⟩ : ∃ A, A = (tabL x).toArray := ⟨_, rfl⟩
  rw [← hA]
  have HA := keepBack hA
  clear hA
  go_enter Tryz.func118, Tryz.ntmps118
  go_wp2_with fail
  go_loopw [3, 4] (fun out i wr => ∃ (k : Nat) (acc : List Row), k ≤ 100 ∧ i = .int .i64 k ∧ Below w.heap.size w wr ∧ TabAt wr w.heap.size x ∧ Own tRow 86 wr (w.heap.size + 1) (fun _ => False) out acc ∧ acc.length ≤ k ∧ Hid (folded x = acc ++ foldFrom x (100 - k) k)) (fun _ i _ => 100 - (intOf i).toNat)
  case atStart => exact ⟨0, [], by omega, rfl, (Below.refl _ _).alloc (Nat.le_refl _) _, by unfold TabAt; rw [← HA.out]; exact heap_alloc_new w _, .nil, Nat.zero_le _, rfl⟩
  case round =>
    obtain ⟨k, acc, hk, rfl, hb, ht, ho, hal, HF⟩ := hrel
    have hs := hb.size
    have hlt0 := ht.lt
    by_cases hlt : k < 100
    · have hc := ht.cell k hlt
      have hxk := HX.out (k : Int)
      have hstep : foldFrom x (100 - k) k = if x k = -1 then foldFrom x (100 - (k + 1)) ((k : Int) + 1) else ((k : Int), x k) :: foldFrom x (100 - (k + 1)) ((k : Int) + 1) := by
        rw [show 100 - k = (100 - (k + 1)) + 1 by omega, foldFrom]
      have HS := keepBack hstep
      clear hstep
      have HTT := keepBack ht
      clear ht
      by_cases hn : x k = -1
      · have HF2 : Hid (folded x = acc ++ foldFrom x (100 - (k + 1)) ((k + 1 : Nat) : Int)) := keepBack (by rw [HF.out, HS.out, if_pos hn]; simp)
        have hq : (x (k : Int) != -1) = false := by simp [hn]
        clear hn hxk
        generalize x (k : Int) = xk at *
        go_wp2
        go_roundw
        case rel => exact ⟨k + 1, acc, by omega, by go_num, hb, HTT.out, ho, by omega, HF2⟩
        case measure => simp [intOf]; omega
      · have HF2 : Hid (folded x = (acc ++ [((k : Int), x k)]) ++ foldFrom x (100 - (k + 1)) ((k + 1 : Nat) : Int)) := keepBack (by rw [HF.out, HS.out, if_neg hn]; simp)
        have hq : (x (k : Int) != -1) = true := by simp [hn]
        have ok : i64ok (k : Int) ∧ i64ok (x k) := ⟨ok_small (by omega), ok_small (by omega)⟩
        clear hn
        generalize x (k : Int) = xk at *
        obtain ⟨ao, cp, rfl, _, _⟩ := ho.shape
        have hob := ho.block
        go_wp2_with (at_builtin; refine wpList_grow rfl (.tmp 13) (.tmp 19) rfl aRow rfl (ho.alloc _) rfl (by simp) (Src.one (cs := [_, _]) (tRow_mk wr (fun _ => False) (k : Int) xk ok.1 ok.2) _) (by simp) (fun _ h => h.elim) (by simp; omega) (by simp; omega) ?_)
        intro v2 w2 ho2 hg2
        have hb2 : Below (w.heap.size + 1) wr w2 := ((Below.refl _ _).alloc (by omega) _).grown hg2 (by simp; omega) (fun g hg => (hob g hg).1)
        go_wp2
        go_roundw
        case rel => exact ⟨k + 1, _, by omega, by go_num, hb.trans (hb2.mono (by omega)), (hb2.block _ (by omega)).trans HTT.out, ho2, by simp; omega, HF2⟩
        case measure => simp [intOf]; omega
    · obtain rfl : k = 100 := by omega
      have HF2 : Hid (folded x = acc) := keepBack (by rw [HF.out, show 100 - 100 = 0 from rfl, foldFrom, List.append_nil])
      clear ht
      go_wp2
      go_ret
      exact ⟨_, rfl, by rw [HF2.out]; exact ho.sl (fun _ h => h.elim) (fun k (hk : w.heap.size + 1 ≤ k) => by omega), hb⟩
end Go.Pch
end
