/- The walk of the document's DoneOf. The law LogRecovers: the walk. -/
import Derived.Test.YtdclpbdmdpakkaaGreatLb38
import Derived.Test.YtdclpbdmdpakkaaGreatLb47
import Derived.Deep.RegionHeld3
import Derived.Test.YtdclpbdmdpakkaaGreatLb39
import Derived.Test.YtdclpbdmdpakkaaGreatLb48
import Derived.Test.YtdclpbdmdpakkaaGreatLb29
section
namespace Go.Pch
open Go.RowKit Go.Proofs
set_option maxRecDepth 100000

theorem rowCells {W : World} {g : Nat} {x y : Value} {T : TypeId} (h : W.heap[g]? = some (.cells #[x, y] T)) : W.cell? ⟨g, 0, none⟩ = some x ∧ W.cell? ⟨g, 1, none⟩ = some y ∧ ∀ i, W.frozen? ⟨g, i, none⟩ = false :=
  ⟨by rw [World.cell?, h]; rfl, by rw [World.cell?, h]; rfl, fun i => frozen_of_row W g i _ _ h⟩
/-- Behind DoOf: r's box as it was, n's box with what came. -/
structure DoneW (w w3 W : World) (rb nb : Nat) (x0 x1 y0 y1 : Value) (R p : Repo) : Prop where
  row : W.heap[rb]? = some (.cells #[x0, x1] 25)
  new : W.heap[nb]? = some (.cells #[y0, y1] 25)
  step : Step (fun j => j = rb) w3 W
  ne : nb ≠ rb
  rep : Rp W (fun j => w.heap.size < j ∧ j ≠ rb) (.agg #[x0, x1]) R
  got : Rp W (fun j => w.heap.size < j ∧ j ≠ rb) (.agg #[y0, y1]) p
theorem doneOne {w w3 wr w4 : World} {rb : Nat} {x0 x1 y0 y1 : Value} {R p : Repo} (hS : Step (fun j => j = rb) w3 wr) (er : wr.heap[rb]? = some (.cells #[x0, x1] 25)) (hR : Rp wr (fun j => w.heap.size < j ∧ j ≠ rb) (.agg #[x0, x1]) R) (hn : w.heap.size < wr.heap.size)
    (b4 : Below wr.drew.heap.size wr.drew w4) (hc : Sl tCommit w4 (fun k => wr.drew.heap.size ≤ k) y0 p.1) (hh : Sl tHead w4 (fun k => wr.drew.heap.size ≤ k) y1 p.2) : DoneW w w3 (w4.alloc (.cells #[y0, y1] 25)) rb w4.heap.size x0 x1 y0 y1 R p := by
  have hl := (Array.getElem?_eq_some_iff.1 er).1
  have b : Below wr.heap.size wr w4 := (Below.refl wr.heap.size wr).drew.trans b4
  have z4 := b.size
  have bN := (Below.refl w4.heap.size w4).alloc (Nat.le_refl _) (.cells #[y0, y1] 25)
  have bb : Below wr.heap.size wr (w4.alloc (.cells #[y0, y1] 25)) := b.trans (bN.mono z4)
  have zd : wr.drew.heap.size = wr.heap.size := rfl
  rw [zd] at hc hh
  exact ⟨(bb.block rb hl).trans er, heap_alloc_new _ _, hS.on (Step.of_below bb), by omega, hR.call bb, ⟨_, _, rfl, (hc.call bN).mono fun j hj _ => ⟨by omega, by omega⟩, (hh.call bN).mono fun j hj _ => ⟨by omega, by omega⟩⟩⟩
theorem doneTwo {w w3 wr w4 : World} {rb : Nat} {x0 x1 y0 y1 : Value} {R p : Repo} (hS : Step (fun j => j = rb) w3 wr) (er : wr.heap[rb]? = some (.cells #[x0, x1] 25)) (hR : Rp wr (fun j => w.heap.size < j ∧ j ≠ rb) (.agg #[x0, x1]) R) (hn : w.heap.size < wr.heap.size)
    (b4 : Below (wr.alloc (.cells #[.slice none 0 0, .slice none 0 0] 25)).drew.heap.size (wr.alloc (.cells #[.slice none 0 0, .slice none 0 0] 25)).drew w4) (hc : Sl tCommit w4 (fun k => (wr.alloc (.cells #[.slice none 0 0, .slice none 0 0] 25)).drew.heap.size ≤ k) y0 p.1) (hh : Sl tHead w4 (fun k => (wr.alloc (.cells #[.slice none 0 0, .slice none 0 0] 25)).drew.heap.size ≤ k) y1 p.2) :
    DoneW w w3 ((w4.setCell ⟨wr.heap.size, 0, none⟩ y0).setCell ⟨wr.heap.size, 1, none⟩ y1) rb wr.heap.size x0 x1 y0 y1 R p := by
  have hl := (Array.getElem?_eq_some_iff.1 er).1
  have zd : (wr.alloc (.cells #[.slice none 0 0, .slice none 0 0] 25)).drew.heap.size = wr.heap.size + 1 := by show (wr.alloc (.cells #[.slice none 0 0, .slice none 0 0] 25)).heap.size = _; simp
  have b1 : Below wr.heap.size wr (wr.alloc (.cells #[.slice none 0 0, .slice none 0 0] 25)).drew := ((Below.refl _ _).alloc (Nat.le_refl _) _).drew
  have b : Below wr.heap.size wr w4 := b1.trans (b4.mono (by rw [zd]; omega))
  have z4 := b4.size
  rw [zd] at hc hh z4
  have en : w4.heap[wr.heap.size]? = some (.cells #[.slice none 0 0, .slice none 0 0] 25) := (b4.block wr.heap.size (by rw [zd]; omega)).trans (heap_alloc_new wr (.cells #[.slice none 0 0, .slice none 0 0] 25))
  have bb : Below wr.heap.size wr ((w4.setCell ⟨wr.heap.size, 0, none⟩ y0).setCell ⟨wr.heap.size, 1, none⟩ y1) := (b.setCell (by simp) _).setCell (by simp) _
  have hk : ∀ j, j ≠ wr.heap.size → ((w4.setCell ⟨wr.heap.size, 0, none⟩ y0).setCell ⟨wr.heap.size, 1, none⟩ y1).heap[j]? = w4.heap[j]? := fun j hj => (heap_setCell_other _ _ _ _ hj).trans (heap_setCell_other _ _ _ _ hj)
  exact ⟨(bb.block rb hl).trans er, heap_setCell_same _ _ 1 _ _ y1 (heap_setCell_same w4 _ 0 _ _ y0 en), hS.on (Step.of_below bb), by omega, hR.call bb, ⟨_, _, rfl, (hc.keep fun j hj _ => hk j (by omega)).mono fun j hj _ => ⟨by omega, by omega⟩, (hh.keep fun j hj _ => hk j (by omega)).mono fun j hj _ => ⟨by omega, by omega⟩⟩⟩

set_option maxHeartbeats 1000000 in
theorem refDoneOf (v : Value) (L : List Act) (S : Blk) (w : World) (h : Sl tAct w S v L) : Calls Tryz.prog 22 #[v] w (Ret w fun y W => Rp W (fun k => w.heap.size ≤ k) y (doneP L)) := by
  obtain ⟨wA, hwA⟩ : ∃ wA, wA = w.alloc (.cells #[.slice none 0 0, .slice none 0 0] 25) := ⟨_, rfl⟩
  have hX : wA.heap[w.heap.size]? = some (.cells #[.slice none 0 0, .slice none 0 0] 25) := by rw [hwA]; exact heap_alloc_new _ _
  have zA : wA.heap.size = w.heap.size + 1 := by rw [hwA]; simp
  have bA : Below w.heap.size w wA := by rw [hwA]; exact (Below.refl _ _).alloc (Nat.le_refl _) _
  have HWA := keepBack hwA
  clear hwA
  obtain ⟨al, cl, hv1, hcl, hml, _⟩ := h.shape
  unfold maxLen at hml
  obtain ⟨nl, hnl⟩ : ∃ n, n = L.length := ⟨_, rfl⟩
  rw [← hnl] at hv1 hcl
  have HNL := keepBack hnl
  clear hnl
  subst hv1
  go_enter Tryz.func22, Tryz.ntmps22
  go_wp2_with fail
  rw [← HWA.out]
  refine (refBegin wA).mono ?_; rintro e w2 ⟨_, rfl, hR2, b2⟩
  have z2 := b2.size
  obtain ⟨v2, v3, rfl, hc2, hh2⟩ := hR2
  obtain ⟨a2, c2, hv2, _, _, _⟩ := hc2.shape
  obtain ⟨a3, c3, hv3, _, _, _⟩ := hh2.shape
  generalize ([([], [])] : List Commit).length = n2 at hv2
  generalize ([((ByteArray.mk #[109, 97, 105, 110]), 0)] : List Head).length = n3 at hv3
  subst hv2 hv3
  go_wp2_with fail
  obtain ⟨w3, hw3⟩ : ∃ w3, w3 = w2.alloc (.cells #[.slice a2 n2 c2, .slice a3 n3 c3] 25) := ⟨_, rfl⟩
  rw [← hw3]
  have z3 : w3.heap.size = w2.heap.size + 1 := by rw [hw3]; simp
  have b3 : Below w2.heap.size w2 w3 := by rw [hw3]; exact (Below.refl _ _).alloc (Nat.le_refl _) _
  have e3 : w3.heap[w2.heap.size]? = some (.cells #[.slice a2 n2 c2, .slice a3 n3 c3] 25) := by rw [hw3]; exact heap_alloc_new _ _
  clear hw3
  have hX3 : w3.heap[w.heap.size]? = some (.cells #[.slice none 0 0, .slice none 0 0] 25) := (b3.block _ (by omega)).trans ((b2.block _ (by omega)).trans hX)
  have low3 : Below w.heap.size w w3 := bA.trans ((b2.trans (b3.mono z2)).mono (by omega))
  have hR3 : Rp w3 (fun j => w.heap.size < j ∧ j ≠ w2.heap.size) (.agg #[.slice a2 n2 c2, .slice a3 n3 c3]) (doneP (L.take 0)) :=
    ⟨_, _, rfl, (hc2.mono fun j hj hl => by omega).call b3, (hh2.mono fun j hj hl => by omega).call b3⟩
  have hA3 : Sl tAct w3 (fun j => j < w.heap.size) (.slice al nl cl) L := (((h.old).call bA).call (b2.mono (Nat.le_refl _))).call b3
  generalize hrb : w2.heap.size = rb at *
  clear hrb hc2 hh2 h
  go_loopw [4, 5, 6] (fun iv _ _ wr => ∃ (k : Nat) (x0 x1 : Value), k ≤ nl ∧ iv = .int .i64 k ∧ Step (fun j => j = rb) w3 wr ∧ wr.heap[rb]? = some (.cells #[x0, x1] 25) ∧ Rp wr (fun j => w.heap.size < j ∧ j ≠ rb) (.agg #[x0, x1]) (doneP (L.take k))) (fun iv _ _ _ => nl - (intOf iv).toNat)
  case atStart => exact ⟨0, _, _, Nat.zero_le _, rfl, Step.refl _ _, e3, hR3⟩
  case round =>
    obtain ⟨k, x0, x1, hk, rfl, hS, er, hRr⟩ := hrel
    have zr := hS.size
    have hAr := hA3.step hS fun j hj e => by omega
    have hXr := (hS.block w.heap.size (by omega) (by omega)).trans hX3
    have hrl : rb < wr.heap.size := by omega
    have hRr' := hRr
    obtain ⟨v4, v5, hv, hc4, hh4⟩ := hRr'
    simp only [Value.agg.injEq, Array.mk.injEq, List.cons.injEq, and_true] at hv
    obtain ⟨rfl, rfl⟩ := hv
    obtain ⟨a4, c4, hv4, _, _, _⟩ := hc4.shape
    obtain ⟨a5, c5, hv5, _, _, _⟩ := hh4.shape
    generalize (doneP (L.take k)).1.length = n4 at hv4
    generalize (doneP (L.take k)).2.length = n5 at hv5
    subst hv4 hv5
    by_cases hlt : k < nl
    · obtain ⟨y, hy⟩ : ∃ y, L[k]? = some y := ⟨L[k]'(by have := HNL.out; omega), List.getElem?_eq_getElem _⟩
      have HD := keepBack (doneP_next hy)
      generalize doneP (L.take k) = R at *
      obtain ⟨b, o, ad, cd, hix, _, hbs, ok1, ok2, ok3, hd, _, _, q0, q1, q2, q3⟩ := hAr.idxAct aAct k k y rfl hy
      obtain ⟨kk, s1, s2, d⟩ := y
      simp only at ok1 ok2 ok3 hd q0 q1 q2 q3
      generalize hnd : d.length = nd at *
      clear hnd
      have hkI : (k : Int) < nl := by omega
      have r0 : wr.cell? ⟨rb, 0, none⟩ = some (.slice a4 n4 c4) := by rw [World.cell?, er]; rfl
      have r1 : wr.cell? ⟨rb, 1, none⟩ = some (.slice a5 n5 c5) := by rw [World.cell?, er]; rfl
      obtain ⟨P, hP⟩ : ∃ P, doP R (kk, s1, s2, d) = P := ⟨_, rfl⟩
      have HP := keepBack hP
      have T : ∀ W, Below wr.heap.size wr W → Calls Tryz.prog 14 #[.agg #[.slice a4 n4 c4, .slice a5 n5 c5], .agg #[.int .i64 kk, .string s1, .string s2, .slice ad nd cd]] W (Ret W (RefRet W.heap.size P)) := fun W hW => by
        have := refDoOf _ _ R (kk, s1, s2, d) _ _ W ok2 (hRr.call hW) ⟨_, rfl, hd.call hW⟩
        rwa [hP] at this
      clear hP
      have B0 : Below wr.heap.size wr wr.drew := (Below.refl _ _).drew
      have B1 : Below wr.heap.size wr (wr.drew.alloc (.cells #[.slice none 0 0, .slice none 0 0] 25)) := (Below.refl _ _).drew.alloc (Nat.le_refl _) _
      have B2 : Below wr.heap.size wr (wr.alloc (.cells #[.slice none 0 0, .slice none 0 0] 25)).drew := ((Below.refl _ _).alloc (Nat.le_refl _) _).drew
      have x0 := (((Below.refl wr.heap.size wr).alloc (Nat.le_refl _) (.cells #[.slice none 0 0, .slice none 0 0] 25)).cell (p := ⟨rb, 0, none⟩) hrl).trans r0
      have x1 := (((Below.refl wr.heap.size wr).alloc (Nat.le_refl _) (.cells #[.slice none 0 0, .slice none 0 0] 25)).cell (p := ⟨rb, 1, none⟩) hrl).trans r1
      have Y : Hid (b < wr.heap.size) := keepBack (by omega)
      have y0 := (((Below.refl wr.heap.size wr).alloc (Nat.le_refl _) (.cells #[.slice none 0 0, .slice none 0 0] 25)).cell (p := ⟨b, o, none⟩) Y.out).trans q0
      have y1 := (((Below.refl wr.heap.size wr).alloc (Nat.le_refl _) (.cells #[.slice none 0 0, .slice none 0 0] 25)).cell (p := ⟨b, o + 1, none⟩) Y.out).trans q1
      have y2 := (((Below.refl wr.heap.size wr).alloc (Nat.le_refl _) (.cells #[.slice none 0 0, .slice none 0 0] 25)).cell (p := ⟨b, o + 2, none⟩) Y.out).trans q2
      have y3 := (((Below.refl wr.heap.size wr).alloc (Nat.le_refl _) (.cells #[.slice none 0 0, .slice none 0 0] 25)).cell (p := ⟨b, o + 3, none⟩) Y.out).trans q3
      obtain ⟨⟨p1, p2⟩, p3⟩ := P
      have hwl : w.heap.size < wr.heap.size := by omega
      have NB : ∀ w4, Below (wr.alloc (.cells #[.slice none 0 0, .slice none 0 0] 25)).drew.heap.size (wr.alloc (.cells #[.slice none 0 0, .slice none 0 0] 25)).drew w4 → w4.cell? ⟨wr.heap.size, 0, none⟩ = some (.slice none 0 0) ∧ w4.cell? ⟨wr.heap.size, 1, none⟩ = some (.slice none 0 0) ∧ ∀ i, w4.frozen? ⟨wr.heap.size, i, none⟩ = false := fun w4 b4 => by
        have en : w4.heap[wr.heap.size]? = some (.cells #[.slice none 0 0, .slice none 0 0] 25) := (b4.block wr.heap.size (by show _ < (wr.alloc (.cells #[.slice none 0 0, .slice none 0 0] 25)).heap.size; simp)).trans (heap_alloc_new wr (.cells #[.slice none 0 0, .slice none 0 0] 25))
        exact ⟨by rw [World.cell?, en]; rfl, by rw [World.cell?, en]; rfl, fun i => frozen_of_row w4 _ i _ _ en⟩
      go_wp2_with fail
      go_region_law (first
        | (go_simp; go_at_call 14; refine (T _ B2).mono ?_; rintro e w4 ⟨_, rfl, ⟨y, rfl, v6, v7, rfl, hc6, hh6⟩, b4⟩; obtain ⟨a6, c6, hv6, _, _, _⟩ := hc6.shape; obtain ⟨a7, c7, hv7, _, _, _⟩ := hh6.shape; simp only at hc6 hh6 hv6 hv7; generalize p1.length = n6 at hv6; generalize p2.length = n7 at hv7; subst hv6 hv7; obtain ⟨nb0, nb1, nbf⟩ := NB w4 b4; have DW := doneTwo (w := w) (p := (p1, p2)) hS er hRr hwl b4 hc6 hh6)
        | (go_simp; go_at_call 14; refine (T _ B0).mono ?_; rintro e w4 ⟨_, rfl, ⟨y, rfl, v6, v7, rfl, hc6, hh6⟩, b4⟩; obtain ⟨a6, c6, hv6, _, _, _⟩ := hc6.shape; obtain ⟨a7, c7, hv7, _, _, _⟩ := hh6.shape; simp only at hc6 hh6 hv6 hv7; generalize p1.length = n6 at hv6; generalize p2.length = n7 at hv7; subst hv6 hv7; have DW := doneOne (w := w) (p := (p1, p2)) hS er hRr hwl b4 hc6 hh6)
        | fail)
      all_goals
        obtain ⟨dr, dn, ds, dne, drep, dgot⟩ := DW
        obtain ⟨g0, g1, gf⟩ := rowCells dr
        obtain ⟨n0, n1, nf⟩ := rowCells dn
        clear T NB hS er hRr hR3 e3 hX3 low3 hX hXr hAr hd
        by_cases h0 : p3 = 0
        · subst h0
          have hst : stepP R (kk, s1, s2, d) = (p1, p2) := by rw [stepP, HP.out]; rfl
          have HST := keepBack hst
          clear hst
          go_wp2_with fail
          go_roundw
          case rel =>
            refine ⟨k + 1, _, _, by omega, by go_num, (ds.on (Step.setCell _ _ rfl)).on (Step.setCell _ _ rfl), heap_setCell_same _ rb 1 _ _ _ (heap_setCell_same _ rb 0 _ _ _ dr), ?_⟩
            rw [HD.out, HST.out]
            exact dgot.keep fun j hj _ => (heap_setCell_other _ _ _ _ (by simpa using hj.2)).trans (heap_setCell_other _ _ _ _ (by simpa using hj.2))
          case measure => simp [intOf]; omega
        · have hst : stepP R (kk, s1, s2, d) = R := by rw [stepP, HP.out]; exact if_neg h0
          have HST := keepBack hst
          clear hst
          go_wp2_with fail
          go_roundw
          case rel =>
            refine ⟨k + 1, _, _, by omega, by go_num, ds, dr, ?_⟩
            rw [HD.out, HST.out]
            exact drep
          case measure => simp [intOf]; omega
    · have hkl : L.take k = L := List.take_of_length_le (by have := HNL.out; omega)
      rw [hkl] at hRr
      clear hkl
      have r0 : wr.cell? ⟨rb, 0, none⟩ = some (.slice a4 n4 c4) := by rw [World.cell?, er]; rfl
      have r1 : wr.cell? ⟨rb, 1, none⟩ = some (.slice a5 n5 c5) := by rw [World.cell?, er]; rfl
      have y0 : wr.cell? ⟨w.heap.size, 0, none⟩ = some (.slice none 0 0) := by rw [World.cell?, hXr]; rfl
      have y1 : wr.cell? ⟨w.heap.size, 1, none⟩ = some (.slice none 0 0) := by rw [World.cell?, hXr]; rfl
      have yf := fun i => frozen_of_row wr w.heap.size i _ _ hXr
      go_wp2_with fail
      have hF := heap_setCell_same _ w.heap.size 1 _ _ (.slice a5 n5 c5) (heap_setCell_same wr w.heap.size 0 _ _ (.slice a4 n4 c4) hXr)
      refine bodyPost_ret (results_cell_row rfl _ _ _ _ _ _ _ rfl hF Tryz.underlying25 rfl rfl) rfl ?_
      refine ⟨_, rfl, ?_, ((low3.trans ((hS.below (fun j hj => by omega) (by omega)).mono (Nat.le_refl _))).setCell (Nat.le_refl _) _).setCell (Nat.le_refl _) _⟩
      obtain ⟨_, _, hv, x1, x2⟩ := hRr.keep (w' := (wr.setCell ⟨w.heap.size, 0, none⟩ (.slice a4 n4 c4)).setCell ⟨w.heap.size, 1, none⟩ (.slice a5 n5 c5)) fun j hj _ => (heap_setCell_other _ _ _ _ (by simp; omega)).trans (heap_setCell_other _ _ _ _ (by simp; omega))
      exact ⟨_, _, hv, x1.mono fun j hj _ => by omega, x2.mono fun j hj _ => by omega⟩

end Go.Pch
end

section
namespace Go.Pch
open Go.RowKit Go.Proofs
set_option maxRecDepth 100000

/-- Contracts with the answers named. -/
theorem logRecover_of {R : Repo} {N E : Int} (t : Bytes) (w : World) (ht : t.length ≤ maxLen) (h : recP t = (R, N, E)) : Calls Tryz.prog 21 #[.string (bl t)] w (Ret w fun y W => ∃ a1 n1 c1 a2 n2 c2, y = .tuple #[.agg #[.slice a1 n1 c1, .slice a2 n2 c2], .int .i64 N, .int .i64 E] ∧ Rp W (fun k => w.heap.size ≤ k) (.agg #[.slice a1 n1 c1, .slice a2 n2 c2]) R) := by
  refine (logRecover t w ht).mono ?_
  rintro e W ⟨_, rfl, ⟨v, rfl, hv⟩, b⟩
  rw [h] at hv
  rw [h]
  obtain ⟨x, y, rfl, hx, hy⟩ := hv
  obtain ⟨a1, c1, rfl, _, _, _⟩ := hx.shape
  obtain ⟨a2, c2, rfl, _, _, _⟩ := hy.shape
  exact ⟨_, rfl, ⟨_, _, _, _, _, _, rfl, _, _, rfl, hx, hy⟩, b⟩
theorem refReplayOf_of {L : List Act} {N E : Int} (t : Bytes) (w : World) (ht : t.length ≤ maxLen) (h : replayP t = (L, N, E)) : Calls Tryz.prog 19 #[.string (bl t)] w (Ret w fun y W => ∃ a c, y = .tuple #[.slice a L.length c, .int .i64 N, .int .i64 E] ∧ Sl tAct W (fun k => w.heap.size ≤ k) (.slice a L.length c) L) := by
  refine (refReplayOf t w ht).mono ?_
  rintro e W ⟨_, rfl, ⟨v, rfl, hv⟩, b⟩
  rw [h] at hv
  rw [h]
  obtain ⟨a, c, rfl, _, _, _⟩ := hv.shape
  exact ⟨_, rfl, ⟨_, _, rfl, hv⟩, b⟩
theorem refDoneOf_of (v : Value) (L : List Act) (S : Blk) (w : World) (h : Sl tAct w S v L) : Calls Tryz.prog 22 #[v] w (Ret w fun y W => ∃ a1 n1 c1 a2 n2 c2, y = .agg #[.slice a1 n1 c1, .slice a2 n2 c2] ∧ Rp W (fun k => w.heap.size ≤ k) (.agg #[.slice a1 n1 c1, .slice a2 n2 c2]) (doneP L)) := by
  refine (refDoneOf v L S w h).mono ?_
  rintro e W ⟨_, rfl, hv, b⟩
  obtain ⟨x, y, rfl, hx, hy⟩ := hv
  obtain ⟨a1, c1, rfl, _, _, _⟩ := hx.shape
  obtain ⟨a2, c2, rfl, _, _, _⟩ := hy.shape
  exact ⟨_, rfl, ⟨_, _, _, _, _, _, rfl, _, _, rfl, hx, hy⟩, b⟩

theorem Rp.under {w : World} {S : Blk} {v : Value} {r : Repo} (h : Rp w S v r) : Rp w (fun k => k < w.heap.size) v r := by
  obtain ⟨x, y, hv, hx, hy⟩ := h
  exact ⟨x, y, hv, hx.old, hy.old⟩

set_option maxHeartbeats 2000000 in
theorem lawLogRecovers (s : ByteArray) (w : World) (hs : s.size ≤ maxLen) : Calls Tryz.prog 6 #[.string s] w (Ret w fun x _ => x = .bool true) := by
  obtain ⟨t, ht⟩ : ∃ t, t = s.data.toList := ⟨_, rfl⟩
  obtain rfl : s = bl t := by rw [ht, bl_data]
  clear ht
  rw [bl_size] at hs
  by_cases hb : 4096 < t.length
  · have hR : recP t = (noRepo, 0, 2) := by rw [recP, if_pos hb]
    have hP : replayP t = ([], 0, 2) := by rw [replayP, if_pos hb]
    have HR := keepBack hR
    have HP := keepBack hP
    clear hR hP
    go_enter Tryz.func6, Tryz.ntmps6
    go_wp2_with fail
    refine (logRecover_of t w hs HR.out).mono ?_; rintro e w1 ⟨_, rfl, ⟨a1, n1, c1, a2, n2, c2, rfl, hr1⟩, b1⟩
    obtain ⟨xA, hxA⟩ : ∃ x, x = w1.alloc (.cells #[.slice a1 n1 c1, .slice a2 n2 c2] 25) := ⟨_, rfl⟩
    have bA : Below w1.heap.size w1 xA := by rw [hxA]; exact (Below.refl _ _).alloc (Nat.le_refl _) _
    have A1 : BoxRow xA w1.heap.size (.slice a1 n1 c1) (.slice a2 n2 c2) := by rw [hxA]; exact ⟨heap_alloc_new _ _⟩
    have HA := keepBack hxA
    clear hxA
    have lowA := b1.trans (bA.mono b1.size)
    go_wp2_with fail
    rw [← HA.out]
    refine (refReplayOf_of t xA hs HP.out).mono ?_; rintro e w2 ⟨_, rfl, ⟨a, c, rfl, hl⟩, b2⟩
    have low2 := lowA.trans (b2.mono lowA.size)
    have A2 := A1.call b2
    have R2 := (hr1.call bA).call b2
    obtain ⟨xB, hxB⟩ : ∃ x, x = w2.alloc (.cells #[.slice none 0 0, .slice none 0 0] 25) := ⟨_, rfl⟩
    have bB : Below w2.heap.size w2 xB := by rw [hxB]; exact (Below.refl _ _).alloc (Nat.le_refl _) _
    have W0 : BoxRow xB w2.heap.size (.slice none 0 0) (.slice none 0 0) := by rw [hxB]; exact ⟨heap_alloc_new _ _⟩
    have HB := keepBack hxB
    clear hxB
    have lowB := low2.trans (bB.mono low2.size)
    have AB := A2.call bB
    have RB := R2.call bB
    go_wp2_with fail
    rw [← HB.out]
    refine (logBegun _).mono ?_; rintro e w3 ⟨_, rfl, rfl, b3⟩
    have low3 := lowB.trans (b3.mono lowB.size)
    have A3 := AB.call b3
    have R3 := RB.call b3
    have W3 := W0.call b3
    have q0 := A3.cell0
    have q1 := A3.cell1
    have q2 := W3.cell0
    have q3 := W3.cell1
    go_wp2_with fail
    refine (refSameRepos _ _ noRepo noRepo _ (fun _ => True) w3 R3 ⟨_, _, rfl, Sl.nil _ _ _, Sl.nil _ _ _⟩).mono ?_; rintro e w4 ⟨_, rfl, rfl, b4⟩
    rw [decide_eq_true rfl, decide_eq_true rfl]
    go_wp2
    go_ret
    exact ⟨_, rfl, rfl, low3.trans (b4.mono low3.size)⟩
  · obtain ⟨L, hL⟩ : ∃ L, L = (replayF 60 t).1 := ⟨_, rfl⟩
    obtain ⟨M, hM⟩ : ∃ M : Int, M = (t.length : Int) - (replayF 60 t).2.length := ⟨_, rfl⟩
    have hR : recP t = (doneP L, (L.length : Int), 0) := by rw [recP, if_neg hb, hL]
    have hP : replayP t = (L, M, 0) := by rw [replayP, if_neg hb, hL, hM]
    clear hL hM
    have HR := keepBack hR
    have HP := keepBack hP
    clear hR hP
    go_enter Tryz.func6, Tryz.ntmps6
    go_wp2_with fail
    refine (logRecover_of t w hs HR.out).mono ?_; rintro e w1 ⟨_, rfl, ⟨a1, n1, c1, a2, n2, c2, rfl, hr1⟩, b1⟩
    replace hr1 := hr1.under
    obtain ⟨xA, hxA⟩ : ∃ x, x = w1.alloc (.cells #[.slice a1 n1 c1, .slice a2 n2 c2] 25) := ⟨_, rfl⟩
    have bA : Below w1.heap.size w1 xA := by rw [hxA]; exact (Below.refl _ _).alloc (Nat.le_refl _) _
    have A1 : BoxRow xA w1.heap.size (.slice a1 n1 c1) (.slice a2 n2 c2) := by rw [hxA]; exact ⟨heap_alloc_new _ _⟩
    have HA := keepBack hxA
    clear hxA
    have lowA := b1.trans (bA.mono b1.size)
    go_wp2_with fail
    rw [← HA.out]
    refine (refReplayOf_of t xA hs HP.out).mono ?_; rintro e w2 ⟨_, rfl, ⟨a, c, rfl, hl⟩, b2⟩
    have low2 := lowA.trans (b2.mono lowA.size)
    have A2 := A1.call b2
    have R2 := (hr1.call bA).call b2
    obtain ⟨xB, hxB⟩ : ∃ x, x = w2.alloc (.cells #[.slice none 0 0, .slice none 0 0] 25) := ⟨_, rfl⟩
    have bB : Below w2.heap.size w2 xB := by rw [hxB]; exact (Below.refl _ _).alloc (Nat.le_refl _) _
    have W0 : BoxRow xB w2.heap.size (.slice none 0 0) (.slice none 0 0) := by rw [hxB]; exact ⟨heap_alloc_new _ _⟩
    have HB := keepBack hxB
    clear hxB
    have lowB := low2.trans (bB.mono low2.size)
    generalize L.length = nl at hl
    have AB := A2.call bB
    have RB := R2.call bB
    have hlB := hl.call bB
    go_wp2_with fail
    rw [← HB.out]
    refine (refDoneOf_of _ L _ xB hlB).mono ?_; rintro e w3 ⟨_, rfl, ⟨a3, n3, c3, a4, n4, c4, rfl, hr3⟩, b3⟩
    have low3 := lowB.trans (b3.mono lowB.size)
    have A3 := AB.call b3
    have R3 := RB.call b3
    have W3 := W0.call b3
    have q0 := A3.cell0
    have q1 := A3.cell1
    have q2 := W3.cell0
    have q3 := W3.cell1
    have q4 := fun i => frozen_of_row _ w2.heap.size i _ _ W3.row
    go_wp2_with fail
    obtain ⟨xC, hxC⟩ : ∃ x, x = (w3.setCell ⟨w2.heap.size, 0, none⟩ (.slice a3 n3 c3)).setCell ⟨w2.heap.size, 1, none⟩ (.slice a4 n4 c4) := ⟨_, rfl⟩
    have hk : ∀ j, j ≠ w2.heap.size → xC.heap[j]? = w3.heap[j]? := fun j hj => by rw [hxC]; exact (heap_setCell_other _ _ _ _ hj).trans (heap_setCell_other _ _ _ _ hj)
    have l12 := (Array.getElem?_eq_some_iff.1 A2.row).1
    have l2B := (Array.getElem?_eq_some_iff.1 W0.row).1
    have zB := low2.size
    have AC : BoxRow xC w1.heap.size (.slice a1 n1 c1) (.slice a2 n2 c2) := ⟨(hk _ (by omega)).trans A3.row⟩
    have WC : BoxRow xC w2.heap.size (.slice a3 n3 c3) (.slice a4 n4 c4) := ⟨by rw [hxC]; exact heap_setCell_same _ _ 1 _ _ _ (heap_setCell_same w3 _ 0 _ _ _ W3.row)⟩
    have RC := R3.keep (w' := xC) fun j hj _ => hk j (by omega)
    have SC := hr3.keep (w' := xC) fun j hj _ => hk j (by omega)
    have lowC : Below w.heap.size w xC := by rw [hxC]; exact (low3.setCell (by simp; omega) _).setCell (by simp; omega) _
    have HC := keepBack hxC
    clear hxC q0 q1 q2 q3 q4
    rw [← HC.out]
    refine (logBegun _).mono ?_; rintro e w6 ⟨_, rfl, rfl, b6⟩
    have low6 := lowC.trans (b6.mono lowC.size)
    have q0 := (AC.call b6).cell0
    have q1 := (AC.call b6).cell1
    have q2 := (WC.call b6).cell0
    have q3 := (WC.call b6).cell1
    go_wp2_with fail
    refine (refSameRepos _ _ (doneP L) (doneP L) _ _ w6 (RC.call b6) (SC.call b6)).mono ?_; rintro e w7 ⟨_, rfl, rfl, b7⟩
    rw [decide_eq_true rfl, decide_eq_true rfl]
    go_wp2
    go_ret
    exact ⟨_, rfl, rfl, low6.trans (b7.mono low6.size)⟩

end Go.Pch
end
