/- The walk of work.Drop. The walk of the document's DropOf. -/
import Derived.Test.YtjjkdpjjaijmbaaGreatDoorDg21
import Derived.Test.YtjjkdpjjaijmbaaGreatDoorDg27
section
namespace Go.Pch
open Go.RowKit Go.Proofs
set_option maxRecDepth 100000
theorem jDrop_one {r : Repo} {s : ByteArray} (h : (headP r s).2 = 0) (h1 : r.2.length = 1) : jDrop r s = (noRepo, 1) := by rw [jDrop, if_pos h, if_pos h1]
theorem jDrop_ok {r : Repo} {s : ByteArray} (h : (headP r s).2 = 0) (h1 : r.2.length ≠ 1) : jDrop r s = ((r.1, r.2.take (hdN r.2 s) ++ r.2.drop (hdN r.2 s + 1)), 0) := by rw [jDrop, if_pos h, if_neg h1]
set_option maxHeartbeats 1000000 in
theorem workDrop (v : Value) (r : Repo) (f : ByteArray) (S : Blk) (w : World) (h : Rp w S v r) :
    Calls Tryz.prog 57 #[v, .string f] w (Ret w (RepoRet w.heap.size (jDrop r f))) := by
  have hR := h
  obtain ⟨cs, hs⟩ := r
  obtain ⟨vc, vh, rfl, hc, hh⟩ := h
  obtain ⟨ac, cc, rfl, _, _, _⟩ := hc.shape
  obtain ⟨ah, ch, rfl, _, _, _⟩ := hh.shape
  simp only at hc hh
  have hX := boxAt w (.slice ac cs.length cc) (.slice ah hs.length ch)
  obtain ⟨wB, hwB⟩ : ∃ wB, wB = (w.alloc (.cells #[.slice ac cs.length cc, .slice ah hs.length ch] 33)).alloc (.cells #[.slice none 0 0, .slice none 0 0] 33) := ⟨_, rfl⟩
  rw [← hwB] at hX
  have HWB := keepBack hwB
  clear hwB
  have zB := hX.size
  obtain ⟨wN, hwN⟩ : ∃ wN, wN = wB.alloc (.cells #[.string f] 9) := ⟨_, rfl⟩
  have bN : Below wB.heap.size wB wN := by rw [hwN]; exact (Below.refl _ _).alloc (Nat.le_refl _) _
  have zN : wN.heap.size = w.heap.size + 3 := by rw [hwN]; simp; omega
  have hnm : Sl tStr wN (fun k => wB.heap.size ≤ k) (.slice (some ⟨wB.heap.size, 0, none⟩) 1 1) [f] := by rw [hwN]; exact oneStr wB f
  rw [show wB.heap.size = w.heap.size + 1 + 1 by omega] at hnm
  have HWN := keepBack hwN
  clear hwN
  have hRN := (hR.call hX.low).call (bN.mono (Nat.le_refl _))
  by_cases he : (headP (cs, hs) f).2 = 0
  · obtain ⟨he0, n, hn, hP, x, hx, hxs, hxn⟩ := head_there he
    have hrk := (repo_ok he0).2.2.2
    have hs4 := (repo_ok he0).2.1
    simp only at hrk hs4 hn hx
    obtain ⟨k, hk⟩ : ∃ k, hdN hs f = k := ⟨_, rfl⟩
    have hhb : hdHas hs f = true := by unfold hdHas; rw [hx]; simpa using hxs
    by_cases h4 : hs.length = 1
    · have HP := keepBack (jDrop_one he (by exact h4))
      rw [h4] at hX HWB hRN
      have H4 := keepBack h4
      clear h4
      go_enter Tryz.func57, Tryz.ntmps57
      rw [H4.out]
      go_wp2_with fail
      rw [← HWB.out, ← HWN.out]
      refine (openOk _ _ (cs, hs) f n _ _ wN hRN hnm hP).mono ?_; rintro e w1 ⟨_, rfl, ⟨db, vc1, vh1, q, rfl, hD, hq⟩, b1⟩
      have bB1 := bN.trans (b1.mono (by omega))
      obtain ⟨y0, y1, y2, y3, yf⟩ := hX.on bB1
      go_wp2_with fail
      exact bodyPost_ret (repoResults rfl _ _ _ _ _ _ _ rfl rfl (hX.fin bB1 _ _).1) rfl ⟨_, rfl, RepoRet.no HP.out, (hX.fin bB1 _ _).2⟩
    · have HP := keepBack (jDrop_ok he (by exact h4))
      have h4' : ((hs.length : Nat) : Int) ≠ 1 := by omega
      simp only [hk] at HP hx
      have hkl : k < hs.length := (List.getElem?_eq_some_iff.1 hx).1
      have hl0 : 0 < hs.length := by omega
      clear hx
      go_enter Tryz.func57, Tryz.ntmps57
      go_wp2_with fail
      rw [← HWB.out, ← HWN.out]
      refine (openOk _ _ (cs, hs) f n _ _ wN hRN hnm hP).mono ?_; rintro e w1 ⟨_, rfl, ⟨db, vc1, vh1, q, rfl, hD, hq⟩, b1⟩
      have bB1 := bN.trans (b1.mono (by omega))
      obtain ⟨y0, y1, y2, y3, yf⟩ := hX.on bB1
      go_wp2_with fail
      refine (repoWhere_of _ (cs, hs) f S w1 (hR.call (hX.low.trans (bB1.mono (by omega)))) hrk (by show hs.length ≤ 1000000; omega) hk hhb).mono ?_; rintro e w3 ⟨_, rfl, rfl, b3⟩
      have bB3 := bB1.trans (b3.mono bB1.size)
      have hD3 := hD.call b3
      clear y0 y1 y2 y3 yf
      obtain ⟨y0, y1, y2, y3, yf⟩ := hX.on bB3
      have d0 := hD3.cell0
      have d1 := hD3.cell1
      obtain ⟨g1, c1, cur, xs, rfl, hg1N, _, _, _, _, _, _, _⟩ := hD3.heads.cells hl0
      obtain ⟨av, cv, rfl, _, _⟩ := hD3.coms.shape
      have bL : Below w3.heap.size w3 w3 := Below.refl _ _
      have hDX := hD3.call bL
      have zN3 := bB3.size
      have z13 := b1.size
      have T := deleteHead (.slice (some ⟨g1, 0, none⟩) hs.length c1) hs k wN.heap.size _ _ hDX.heads hkl (by omega)
      have hDB := hD3.low
      have hwk : IntKind.i64.wrap ((k : Int) + 1) = (k : Int) + 1 := by rw [IntKind.wrap_i64]; omega
      generalize hs.take k ++ hs.drop (k + 1) = L at T HP
      go_wp2_with fail
      refine T.mono ?_; rintro e w4 ⟨v4, rfl, ho4, hg4, _⟩
      obtain ⟨row4, row5, hR5⟩ := hDX.setHeads ho4 hg4
      obtain ⟨a4, c4, hv4, _, _⟩ := ho4.shape
      generalize L.length = m4 at hv4
      subst hv4
      have e1 : w4.cell? ⟨db, 1, none⟩ = some (.slice (some ⟨g1, 0, none⟩) hs.length c1) := by rw [World.cell?, row4]; rfl
      have ef := frozen_of_row w4 db 1 _ _ row4
      have bB5 : Below wB.heap.size wB (w4.setCell ⟨db, 1, none⟩ (.slice a4 m4 c4)) := ((bB3.trans (bL.mono bB3.size)).grown hg4 (by have := bL.size; omega) (fun g hg => by simp [Value.ownBlock] at hg; omega)).setCell (by simp; omega) _
      have e50 : (w4.setCell ⟨db, 1, none⟩ (.slice a4 m4 c4)).cell? ⟨db, 0, none⟩ = some (.slice av cs.length cv) := by rw [World.cell?, row5]; rfl
      have e51 : (w4.setCell ⟨db, 1, none⟩ (.slice a4 m4 c4)).cell? ⟨db, 1, none⟩ = some (.slice a4 m4 c4) := by rw [World.cell?, row5]; rfl
      clear y0 y1 y2 y3 yf row4 row5 hg4 ho4 d0 d1 T
      obtain ⟨y0, y1, y2, y3, yf⟩ := hX.on bB5
      have hR5' : Rp (w4.setCell ⟨db, 1, none⟩ (.slice a4 m4 c4)) (fun k => wB.heap.size ≤ k) (.agg #[.slice av cs.length cv, .slice a4 m4 c4]) (cs, L) := by
        obtain ⟨_, _, e1, e2, e3⟩ := hR5
        exact ⟨_, _, e1, e2.mono fun k hk _ => by omega, e3.mono fun k hk _ => by omega⟩
      go_wp2_with fail
      exact bodyPost_ret (repoResults rfl _ _ _ _ _ _ _ rfl rfl (hX.fin bB5 _ _).1) rfl ⟨_, rfl, ⟨_, by rw [HP.out]; rfl, by rw [HP.out]; exact hX.rp hR5'⟩, (hX.fin bB5 _ _).2⟩
  · have HP := keepBack (jDrop_bad he)
    have hq : ((headP (cs, hs) f).2 != 0) = true := by simp [he]
    go_enter Tryz.func57, Tryz.ntmps57
    go_wp2_with fail
    rw [← HWB.out, ← HWN.out]
    refine (openBad _ _ (cs, hs) f _ _ wN hRN hnm).mono ?_; rintro e w1 ⟨_, rfl, ⟨p, q, rfl⟩, b1⟩
    have bB1 := bN.trans (b1.mono (by omega))
    obtain ⟨y0, y1, y2, y3, yf⟩ := hX.on bB1
    go_wp2_with fail
    exact bodyPost_ret (repoResults rfl _ _ _ _ _ _ _ rfl rfl (hX.fin bB1 _ _).1) rfl ⟨_, rfl, RepoRet.no HP.out, (hX.fin bB1 _ _).2⟩
end Go.Pch
end

section
namespace Go.Pch
open Go.RowKit Go.Proofs
set_option maxRecDepth 100000
set_option maxHeartbeats 1000000 in
theorem refDropOf (v : Value) (r : Repo) (s : ByteArray) (S : Blk) (w : World) (h : Rp w S v r) :
    Calls Tryz.prog 35 #[v, .string s] w (Ret w (RefRet w.heap.size (jDrop r s))) := by
  have hR := h
  obtain ⟨cs, hs⟩ := r
  obtain ⟨vc, vh, rfl, hc, hh⟩ := h
  obtain ⟨ac, cc, rfl, _, _, _⟩ := hc.shape
  obtain ⟨ah, ch, rfl, _, _, _⟩ := hh.shape
  simp only at hc hh
  have hX := boxAt w (.slice ac cs.length cc) (.slice ah hs.length ch)
  obtain ⟨wB, hwB⟩ : ∃ wB, wB = (w.alloc (.cells #[.slice ac cs.length cc, .slice ah hs.length ch] 33)).alloc (.cells #[.slice none 0 0, .slice none 0 0] 33) := ⟨_, rfl⟩
  rw [← hwB] at hX
  have HWB := keepBack hwB
  clear hwB
  have zB := hX.size
  have hRB := hR.call hX.low
  by_cases he : (headP (cs, hs) s).2 = 0
  · obtain ⟨he0, n, hn, hP, x, hx, hxs, hxn⟩ := head_there he
    have hrk := (repo_ok he0).2.2.2
    have hs4 := (repo_ok he0).2.1
    have hc14 := (dag_ok (repo_ok he0).1).1
    have hfew := repo_few he0
    simp only at hrk hs4 hc14 hn hx hfew
    have hhd : hdHas hs s = true := by unfold hdHas; rw [hx]; simpa using hxs
    have hHK := keepBack (headK_at hrk hhd)
    have hkl := (List.getElem?_eq_some_iff.1 hx).1
    by_cases h1 : hs.length = 1
    · have HP := keepBack (jDrop_one (r := (cs, hs)) (s := s) he h1)
      have h1i : ((hs.length : Nat) : Int) = 1 := by omega
      have HX := keepBack hx
      clear hx h1
      go_enter Tryz.func35, Tryz.ntmps35
      go_wp2_with fail
      rw [← HWB.out]
      refine (refHeadOf_of _ (cs, hs) s S wB hRB hP).mono ?_; rintro e w1 ⟨_, rfl, rfl, b1⟩
      obtain ⟨y0, y1, y2, y3, yf⟩ := hX.on b1
      go_wp2_with fail
      refine bodyPost_ret (repoResults rfl _ _ _ _ _ _ _ rfl rfl (hX.fin b1 _ _).1) rfl ?_
      exact ⟨_, rfl, RefRet.no HP.out, (hX.fin b1 _ _).2⟩
    · have HP := keepBack (jDrop_ok (r := (cs, hs)) (s := s) he h1)
      have h1i : ((hs.length : Nat) : Int) ≠ 1 := by omega
      have HX := keepBack hx
      clear hx h1
      go_enter Tryz.func35, Tryz.ntmps35
      go_wp2_with fail
      rw [← HWB.out]
      refine (refHeadOf_of _ (cs, hs) s S wB hRB hP).mono ?_; rintro e w1 ⟨_, rfl, rfl, b1⟩
      obtain ⟨y0, y1, y2, y3, yf⟩ := hX.on b1
      go_wp2_with fail
      refine (refOwn _ (cs, hs) S w1 (hRB.call b1) (by show cs.length ≤ 1000; omega) (by show hs.length ≤ 1000; omega) hfew.2.2).mono ?_; rintro e w2 ⟨_, rfl, ⟨vc1, vh1, rfl, hO⟩, b2⟩
      have z1 := b1.size
      have z2 := b2.size
      have hD : OutAt (fun k => w.heap.size ≤ k ∧ k ≠ w.heap.size + 1) (w2.alloc (.cells #[vc1, vh1] 33)) w1.heap.size w2.heap.size vc1 vh1 (cs, hs) := ⟨b2.size, heap_alloc_new _ _, (hO.coms.mono fun k hk hlt => ⟨⟨by omega, hk.2⟩, by omega⟩).alloc _, hO.heads.alloc _⟩
      have bB3 : Below wB.heap.size wB (w2.alloc (.cells #[vc1, vh1] 33)) := (b1.trans (b2.mono z1)).alloc (by omega) _
      obtain ⟨av, cv, rfl, _, _⟩ := hO.coms.shape
      obtain ⟨au, cu, rfl, _, _⟩ := hO.heads.shape
      have d0 := hD.cell0
      have d1 := hD.cell1
      have df := hD.free 1
      clear hO
      obtain ⟨w3, hw3⟩ : ∃ w3, w3 = w2.alloc (.cells #[.slice av cs.length cv, .slice au hs.length cu] 33) := ⟨_, rfl⟩
      rw [← hw3] at hD bB3 d0 d1 df
      have z3 : w3.heap.size = w2.heap.size + 1 := by rw [hw3]; simp
      have HW3 := keepBack hw3
      clear hw3 y0 y1 y2 y3 yf
      obtain ⟨y0, y1, y2, y3, yf⟩ := hX.on bB3
      have yw0 := y0
      have yw1 := y1
      rw [HW3.out] at yw0 yw1
      go_wp2_with fail
      rw [← HW3.out]
      refine (refHeadAt_of (c := some (hdN hs s)) _ (cs, hs) s S w3 (hRB.call bB3) hHK.out).mono ?_; rintro e w4 ⟨_, rfl, rfl, b4⟩
      rw [show atI (some (hdN hs s)) = ((hdN hs s : Nat) : Int) from rfl]
      have bB4 := bB3.trans (b4.mono bB3.size)
      have z4 := b4.size
      have hD4 := hD.call b4
      have d0 := hD4.cell0
      have d1 := hD4.cell1
      have df := hD4.free 1
      clear yw0 yw1 y0 y1 y2 y3 yf
      obtain ⟨y0, y1, y2, y3, yf⟩ := hX.on bB4
      have hh4 := hh.call (hX.low.trans (bB4.mono (by omega)))
      generalize hdN hs s = k at *
      obtain ⟨a5, c5, q5, qq5, hs5, hn5⟩ := hh4.cutTo aHead (k : Int) k rfl (by omega)
      obtain ⟨a6, c6, q6, qq6, hs6, hn6⟩ := hh4.cutFrom aHead ((k : Int) + 1) (k + 1) (by omega) (by omega)
      have hw1 : IntKind.i64.wrap ((k : Int) + 1) = (k : Int) + 1 := by rw [IntKind.wrap_i64]; omega
      have hkI : (k : Int) < hs.length := by omega
      have hTL : (hs.take k).length = k := by rw [List.length_take]; omega
      have bD : Below w4.heap.size w4 (w4.alloc (.cells #[] 61)) := (Below.refl _ _).alloc (Nat.le_refl _) _
      have eA0 := heap_alloc_new w4 (.cells #[] 61)
      have hap := hD4.apart
      generalize ht5 : hs.take k = L5 at *
      go_wp2_with fail
      go_region_held3 (fun W => W.cell? ⟨w.heap.size, 1, none⟩ = some (.slice ah hs.length ch))
        (first
          | exact (hX.on bB4.drew).2.1
          | exact (hX.on bB4).2.1
          | exact (hX.on (bB4.trans (bD.mono (by omega)))).2.1
          | exact (hX.on (by assumption)).2.1
          | exact (hX.on (Below.setCell (by assumption) (by simp; omega) _)).2.1
          | fail)
        (first
          | (refine step_clone (l := L5) rfl (.tmp 30) (.tmp 34) rfl aHead rfl eA0 (by simp) (by first | exact bD | exact bD.drew) rfl hs5 (by omega) ?_; rintro a7 c7 w7 ho7 b7 t7; rw [hTL] at ho7 ⊢; have bB7 := bB4.trans (b7.mono (by omega)))
          | (refine step_grow (D := fun q => q < w4.heap.size) (m := hs.drop (k + 1)) rfl (.tmp 35) (.tmp 40) rfl aHead rfl ho7 rfl (by simp) ((hs6.old.call b7).src) hn6 (fun q hq _ => ⟨hq, fun e => by have := (ho7.block q e.symm).1; omega⟩) (by rw [hTL, List.length_drop]; omega) b7.size ?_; rintro v8 w8 ho8 hg8; generalize L5 ++ hs.drop (k + 1) = L at ho8 HP; obtain ⟨a8, c8, rfl, _, _⟩ := ho8.shape; have b8 := b7.grown hg8 b7.size (fun g hg => (ho7.block g hg).1); have bB8 := bB4.trans (b8.mono (by omega)); have hD8 := hD4.call b8; have e8 := hD8.cell1; have f8 := hD8.free 1)
          | fail)
      all_goals
        have row9 := heap_setCell_same w8 w2.heap.size 1 _ _ (.slice a8 L.length c8) hD8.row
        have e90 : (w8.setCell ⟨w2.heap.size, 1, none⟩ (.slice a8 L.length c8)).cell? ⟨w2.heap.size, 0, none⟩ = some (.slice av cs.length cv) := by rw [World.cell?, row9]; rfl
        have e91 : (w8.setCell ⟨w2.heap.size, 1, none⟩ (.slice a8 L.length c8)).cell? ⟨w2.heap.size, 1, none⟩ = some (.slice a8 L.length c8) := by rw [World.cell?, row9]; rfl
        have bB9 : Below wB.heap.size wB (w8.setCell ⟨w2.heap.size, 1, none⟩ (.slice a8 L.length c8)) := bB8.setCell (by simp; omega) _
        have h8 : ∀ q, (Value.slice a8 L.length c8).ownBlock = some q → w4.heap.size ≤ q := fun q hq => (ho8.block q hq).1
        have hR9 : Rp (w8.setCell ⟨w2.heap.size, 1, none⟩ (.slice a8 L.length c8)) (fun k => w.heap.size ≤ k ∧ k ≠ w.heap.size + 1) (.agg #[.slice av cs.length cv, .slice a8 L.length c8]) (cs, L) := by
          refine ⟨_, _, rfl, (hD8.coms.keep (w' := w8.setCell ⟨w2.heap.size, 1, none⟩ (.slice a8 L.length c8)) fun q hq _ => heap_setCell_other _ _ _ _ ?_).sl (fun _ hk => hk.1.1) (fun q hq => by omega), ((ho8.flatHead (D := fun _ => False)).keep (w' := w8.setCell ⟨w2.heap.size, 1, none⟩ (.slice a8 L.length c8)) fun q hq _ => heap_setCell_other _ _ _ _ ?_).sl (fun _ hk => hk.elim) (fun q hq => by omega)⟩
          · rcases hq with hq | hq
            · exact hq.2
            · intro e; exact hD8.apart.1 (by rw [hq, e])
          · rcases hq with hq | hq
            · exact hq.elim
            · have := h8 q hq; simp; omega
        clear e8 f8 d0 d1 df y0 y1 y2 y3 yf hg8
        obtain ⟨y0, y1, y2, y3, yf⟩ := hX.on bB9
        have hfin := hX.fin bB9 (.slice av cs.length cv) (.slice a8 L.length c8)
        go_wp2_with fail
        refine bodyPost_ret (repoResults rfl _ _ _ _ _ _ _ rfl rfl hfin.1) rfl ?_
        refine ⟨_, rfl, ?_, hfin.2⟩
        rw [HP.out]
        exact ⟨_, rfl, rpAny hR9⟩
  · have HP := keepBack (jDrop_bad (r := (cs, hs)) he)
    have hq : ((headP (cs, hs) s).2 != 0) = true := by simp [he]
    go_enter Tryz.func35, Tryz.ntmps35
    go_wp2_with fail
    rw [← HWB.out]
    refine (refHeadOf _ (cs, hs) s S wB hRB).mono ?_; rintro e w1 ⟨_, rfl, rfl, b1⟩
    obtain ⟨y0, y1, y2, y3, yf⟩ := hX.on b1
    go_wp2_with fail
    refine bodyPost_ret (repoResults rfl _ _ _ _ _ _ _ rfl rfl (hX.fin b1 _ _).1) rfl ?_
    exact ⟨_, rfl, RefRet.no HP.out, (hX.fin b1 _ _).2⟩
end Go.Pch
end
