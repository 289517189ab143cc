/- The walk of the document's DropOf. -/
import Derived.Test.YtdclpbdmdpakkaaGreatWm36
section
namespace Go.Pch
open Go.RowKit Go.Proofs
set_option maxRecDepth 100000

set_option maxHeartbeats 1000000 in
theorem refDropOf (v : Value) (r : Repo) (s : ByteArray) (S : Blk) (w : World) (h : Rp w S v r) :
    Calls Tryz.prog 45 #[v, .string s] w (Ret w (RefRet (jDrop r s))) := by
  have hR := h
  obtain ⟨cs, hs⟩ := r
  obtain ⟨vc, vh, rfl, hc, hh⟩ := h
  obtain ⟨ac, cc, rfl, _, _, _⟩ := hc.shape
  obtain ⟨ah, ch, rfl, _, _, _⟩ := hh.shape
  simp only at hc hh
  have hX := boxAt w (.slice ac cs.length cc) (.slice ah hs.length ch)
  obtain ⟨wB, hwB⟩ : ∃ wB, wB = (w.alloc (.cells #[.slice ac cs.length cc, .slice ah hs.length ch] 25)).alloc (.cells #[.slice none 0 0, .slice none 0 0] 25) := ⟨_, rfl⟩
  rw [← hwB] at hX
  have HWB := keepBack hwB
  clear hwB
  have zB := hX.size
  have hRB := hR.call hX.low
  by_cases he : (headP (cs, hs) s).2 = 0
  · obtain ⟨he0, n, hn, hP, x, hx, hxs, hxn⟩ := head_there he
    have hrk := (repo_ok he0).2.2.2
    have hs4 := (repo_ok he0).2.1
    have hc14 := (dag_ok (repo_ok he0).1).1
    have hfew := repo_few he0
    simp only at hrk hs4 hc14 hn hx hfew
    have hhd : hdHas hs s = true := by unfold hdHas; rw [hx]; simpa using hxs
    have hHK := keepBack (headK_at hrk hhd)
    have hkl := (List.getElem?_eq_some_iff.1 hx).1
    by_cases h1 : hs.length = 1
    · have HP := keepBack (jDrop_one (r := (cs, hs)) (s := s) he h1)
      have h1i : ((hs.length : Nat) : Int) = 1 := by omega
      have HX := keepBack hx
      clear hx h1
      go_enter Tryz.func45, Tryz.ntmps45
      go_wp2_with fail
      rw [← HWB.out]
      refine (refHeadOf_of _ (cs, hs) s S wB hRB hP).mono ?_; rintro e w1 ⟨_, rfl, rfl, b1⟩
      obtain ⟨y0, y1, y2, y3, yf⟩ := hX.on b1
      go_wp2_with fail
      refine bodyPost_ret (repoResults rfl _ _ _ _ _ _ _ rfl rfl (hX.fin b1 _ _).1) rfl ?_
      exact ⟨_, rfl, RefRet.no HP.out, (hX.fin b1 _ _).2⟩
    · have HP := keepBack (jDrop_ok (r := (cs, hs)) (s := s) he h1)
      have h1i : ((hs.length : Nat) : Int) ≠ 1 := by omega
      have HX := keepBack hx
      clear hx h1
      go_enter Tryz.func45, Tryz.ntmps45
      go_wp2_with fail
      rw [← HWB.out]
      refine (refHeadOf_of _ (cs, hs) s S wB hRB hP).mono ?_; rintro e w1 ⟨_, rfl, rfl, b1⟩
      obtain ⟨y0, y1, y2, y3, yf⟩ := hX.on b1
      go_wp2_with fail
      refine (refOwn _ (cs, hs) S w1 (hRB.call b1) (by show cs.length ≤ 1000; omega) (by show hs.length ≤ 1000; omega) hfew.2.2).mono ?_; rintro e w2 ⟨_, rfl, ⟨vc1, vh1, rfl, hO⟩, b2⟩
      have z1 := b1.size
      have z2 := b2.size
      have hD : OutAt (fun k => k ≠ w.heap.size + 1) (w2.alloc (.cells #[vc1, vh1] 25)) w1.heap.size w2.heap.size vc1 vh1 (cs, hs) := ⟨b2.size, heap_alloc_new _ _, (hO.coms.mono fun k hk hlt => ⟨⟨by omega, hk.2⟩, by omega⟩).alloc _, hO.heads.alloc _⟩
      have bB3 : Below wB.heap.size wB (w2.alloc (.cells #[vc1, vh1] 25)) := (b1.trans (b2.mono z1)).alloc (by omega) _
      obtain ⟨av, cv, rfl, _, _⟩ := hO.coms.shape
      obtain ⟨au, cu, rfl, _, _⟩ := hO.heads.shape
      have d0 := hD.cell0
      have d1 := hD.cell1
      have df := hD.free 1
      clear hO
      obtain ⟨w3, hw3⟩ : ∃ w3, w3 = w2.alloc (.cells #[.slice av cs.length cv, .slice au hs.length cu] 25) := ⟨_, rfl⟩
      rw [← hw3] at hD bB3 d0 d1 df
      have z3 : w3.heap.size = w2.heap.size + 1 := by rw [hw3]; simp
      have HW3 := keepBack hw3
      clear hw3 y0 y1 y2 y3 yf
      obtain ⟨y0, y1, y2, y3, yf⟩ := hX.on bB3
      have yw0 := y0
      have yw1 := y1
      rw [HW3.out] at yw0 yw1
      go_wp2_with fail
      rw [← HW3.out]
      refine (refHeadAt_of (c := some (hdN hs s)) _ (cs, hs) s S w3 (hRB.call bB3) hHK.out).mono ?_; rintro e w4 ⟨_, rfl, rfl, b4⟩
      rw [show atI (some (hdN hs s)) = ((hdN hs s : Nat) : Int) from rfl]
      have bB4 := bB3.trans (b4.mono bB3.size)
      have z4 := b4.size
      have hD4 := hD.call b4
      have d0 := hD4.cell0
      have d1 := hD4.cell1
      have df := hD4.free 1
      clear yw0 yw1 y0 y1 y2 y3 yf
      obtain ⟨y0, y1, y2, y3, yf⟩ := hX.on bB4
      have hh4 := hh.call (hX.low.trans (bB4.mono (by omega)))
      generalize hdN hs s = k at *
      obtain ⟨a5, c5, q5, qq5, hs5, hn5⟩ := hh4.cutTo aHead (k : Int) k rfl (by omega)
      obtain ⟨a6, c6, q6, qq6, hs6, hn6⟩ := hh4.cutFrom aHead ((k : Int) + 1) (k + 1) (by omega) (by omega)
      have hw1 : IntKind.i64.wrap ((k : Int) + 1) = (k : Int) + 1 := by rw [IntKind.wrap_i64]; omega
      have hkI : (k : Int) < hs.length := by omega
      have hTL : (hs.take k).length = k := by rw [List.length_take]; omega
      have bD : Below w4.heap.size w4 (w4.alloc (.cells #[] 59)) := (Below.refl _ _).alloc (Nat.le_refl _) _
      have eA0 := heap_alloc_new w4 (.cells #[] 59)
      have hap := hD4.apart
      generalize ht5 : hs.take k = L5 at *
      go_wp2_with fail
      go_region_held3 (fun W => W.cell? ⟨w.heap.size, 1, none⟩ = some (.slice ah hs.length ch))
        (first
          | exact (hX.on bB4.drew).2.1
          | exact (hX.on bB4).2.1
          | exact (hX.on (bB4.trans (bD.mono (by omega)))).2.1
          | exact (hX.on (by assumption)).2.1
          | exact (hX.on (Below.setCell (by assumption) (by simp; omega) _)).2.1
          | fail)
        (first
          | (refine step_clone (l := L5) rfl (.tmp 30) (.tmp 34) rfl aHead rfl eA0 (by simp) (by first | exact bD | exact bD.drew) rfl hs5 (by omega) ?_; rintro a7 c7 w7 ho7 b7 t7; rw [hTL] at ho7 ⊢; have bB7 := bB4.trans (b7.mono (by omega)))
          | (refine step_grow (D := fun q => q < w4.heap.size) (m := hs.drop (k + 1)) rfl (.tmp 35) (.tmp 40) rfl aHead rfl ho7 rfl (by simp) ((hs6.old.call b7).src) hn6 (fun q hq _ => ⟨hq, fun e => by have := (ho7.block q e.symm).1; omega⟩) (by rw [hTL, List.length_drop]; omega) b7.size ?_; rintro v8 w8 ho8 hg8; generalize L5 ++ hs.drop (k + 1) = L at ho8 HP; obtain ⟨a8, c8, rfl, _, _⟩ := ho8.shape; have b8 := b7.grown hg8 b7.size (fun g hg => (ho7.block g hg).1); have bB8 := bB4.trans (b8.mono (by omega)); have hD8 := hD4.call b8; have e8 := hD8.cell1; have f8 := hD8.free 1)
          | fail)
      all_goals
        have row9 := heap_setCell_same w8 w2.heap.size 1 _ _ (.slice a8 L.length c8) hD8.row
        have e90 : (w8.setCell ⟨w2.heap.size, 1, none⟩ (.slice a8 L.length c8)).cell? ⟨w2.heap.size, 0, none⟩ = some (.slice av cs.length cv) := by rw [World.cell?, row9]; rfl
        have e91 : (w8.setCell ⟨w2.heap.size, 1, none⟩ (.slice a8 L.length c8)).cell? ⟨w2.heap.size, 1, none⟩ = some (.slice a8 L.length c8) := by rw [World.cell?, row9]; rfl
        have bB9 : Below wB.heap.size wB (w8.setCell ⟨w2.heap.size, 1, none⟩ (.slice a8 L.length c8)) := bB8.setCell (by simp; omega) _
        have h8 : ∀ q, (Value.slice a8 L.length c8).ownBlock = some q → w4.heap.size ≤ q := fun q hq => (ho8.block q hq).1
        have hR9 : Rp (w8.setCell ⟨w2.heap.size, 1, none⟩ (.slice a8 L.length c8)) (fun k => k ≠ w.heap.size + 1) (.agg #[.slice av cs.length cv, .slice a8 L.length c8]) (cs, L) := by
          refine ⟨_, _, rfl, (hD8.coms.keep (w' := w8.setCell ⟨w2.heap.size, 1, none⟩ (.slice a8 L.length c8)) fun q hq _ => heap_setCell_other _ _ _ _ ?_).sl (fun _ hk => hk.1.1) (fun q hq => by omega), ((ho8.flatHead (D := fun _ => False)).keep (w' := w8.setCell ⟨w2.heap.size, 1, none⟩ (.slice a8 L.length c8)) fun q hq _ => heap_setCell_other _ _ _ _ ?_).sl (fun _ hk => hk.elim) (fun q hq => by omega)⟩
          · rcases hq with hq | hq
            · exact hq.2
            · intro e; exact hD8.apart.1 (by rw [hq, e])
          · rcases hq with hq | hq
            · exact hq.elim
            · have := h8 q hq; simp; omega
        clear e8 f8 d0 d1 df y0 y1 y2 y3 yf hg8
        obtain ⟨y0, y1, y2, y3, yf⟩ := hX.on bB9
        have hfin := hX.fin bB9 (.slice av cs.length cv) (.slice a8 L.length c8)
        go_wp2_with fail
        refine bodyPost_ret (repoResults rfl _ _ _ _ _ _ _ rfl rfl hfin.1) rfl ?_
        refine ⟨_, rfl, ?_, hfin.2⟩
        rw [HP.out]
        exact ⟨_, rfl, rpAny hR9⟩
  · have HP := keepBack (jDrop_bad (r := (cs, hs)) he)
    have hq : ((headP (cs, hs) s).2 != 0) = true := by simp [he]
    go_enter Tryz.func45, Tryz.ntmps45
    go_wp2_with fail
    rw [← HWB.out]
    refine (refHeadOf _ (cs, hs) s S wB hRB).mono ?_; rintro e w1 ⟨_, rfl, rfl, b1⟩
    obtain ⟨y0, y1, y2, y3, yf⟩ := hX.on b1
    go_wp2_with fail
    refine bodyPost_ret (repoResults rfl _ _ _ _ _ _ _ rfl rfl (hX.fin b1 _ _).1) rfl ?_
    exact ⟨_, rfl, RefRet.no HP.out, (hX.fin b1 _ _).2⟩

end Go.Pch
end
