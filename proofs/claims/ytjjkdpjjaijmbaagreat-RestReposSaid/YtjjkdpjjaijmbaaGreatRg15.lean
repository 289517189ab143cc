/- The walk of desk.grow. The walks of rows.Key and rows.Val. The struct type Row: its fields; two rows compared. The walks of package chunk and of what the document says of chunks: Ends, Sum, comparing. The walks of cmp.Compare, of the binary search of rows, and of rows.Seek, Of, Find. -/
import Derived.Test.YtjjkdpjjaijmbaaGreatRg14
import Derived.Test.YtjjkdpjjaijmbaaGreatRg4
import Derived.Test.YtjjkdpjjaijmbaaGreatRg12
import Derived.Deep.RegionHeld3
import Derived.Test.YtjjkdpjjaijmbaaGreatRg2
import Derived.Test.YtjjkdpjjaijmbaaGreatRg1
import Derived.Test.YtjjkdpjjaijmbaaGreatChecked
import Derived.Test.YtjjkdpjjaijmbaaGreatRg10
section
namespace Go.Pch
open Go.RowKit Go.Proofs
set_option maxRecDepth 100000

theorem Own.grownTo {α : Type} {E : Ty α} {e : TypeId} {w w' : World} {B : Nat} {C X : Blk} {v : Value} {l : List α} (h : Own E e w B C v l) (hs : Step X w w') (hX : ∀ k, (C k ∧ k < w.heap.size ∨ v.ownBlock = some k) → ¬ X k) : Own E e w' B C v l := by
  have h2 : Own E e w B (fun k => C k ∧ k < w.heap.size) v l := h.mono fun k hk hlt => ⟨hk, hlt⟩
  exact (h2.keep (w' := w') fun k hk hlt => hs.block k hlt (hX k hk)).mono fun k hk _ => hk.1

/-- A desk's blocks are old: what happens elsewhere leaves it alone. -/
theorem DeskAt.step {w w' : World} {B db : Nat} {vc vh : Value} {r : Repo} {X : Blk} (h : DeskAt w B db vc vh r) (hs : Step X w w') (hX : ∀ k, k < w.heap.size → ¬ X k) : DeskAt w' B db vc vh r :=
  ⟨h.low, (hs.block db h.lt (hX db h.lt)).trans h.row, h.coms.grownTo hs fun k hk => hX k (by
    rcases hk with hk | hk
    · exact hk.2
    · exact (h.coms.block k hk).2), h.heads.grownTo hs fun k hk => hX k (by
    rcases hk with hk | hk
    · exact hk.2
    · exact (h.heads.block k hk).2)⟩
/-- The commits are grown. -/
theorem DeskAt.setC {w w' : World} {B db : Nat} {vc vc' vh : Value} {r : Repo} {l : List Commit} (h : DeskAt w B db vc vh r) (ho : Own tCommit 42 w' B (fun k => (B ≤ k ∧ some k ≠ vh.ownBlock) ∧ k ≠ db) vc' l) (hg : w.grownBy w' vc.ownBlock) :
    DeskAt (w'.setCell ⟨db, 0, none⟩ vc') B db vc' vh (l, r.2) := by
  have hap := h.apart
  have hrow : w'.heap[db]? = some (.cells #[vc, vh] 91) := (hg.block db h.lt fun e => hap.1 e.symm).trans h.row
  have hn : vc'.ownBlock ≠ some db := fun e => by
    obtain ⟨cur, hc⟩ := ho.rowAt _ e
    rw [hrow] at hc
    simp at hc
  refine ⟨h.low, heap_setCell_same w' db 0 _ _ vc' hrow, ho.keep fun k hk _ => heap_setCell_other _ _ _ _ ?_, (h.heads.keep (w' := w') fun k hk hlt => hg.block k hlt ?_).keep fun k hk _ => heap_setCell_other _ _ _ _ ?_⟩
  · rcases hk with hk | hk
    · exact hk.2
    · intro e; exact hn (by rw [hk, e])
  · rcases hk with hk | hk
    · exact hk.elim
    · intro e; exact hap.2.2 k e.symm hk
  · rcases hk with hk | hk
    · exact hk.elim
    · intro e; exact hap.2.1 (by rw [hk, e])
theorem DeskAt.rowOf {w w' : World} {B db : Nat} {vc vh : Value} {r : Repo} (h : DeskAt w B db vc vh r) (hg : w.grownBy w' vc.ownBlock) : w'.heap[db]? = some (.cells #[vc, vh] 91) :=
  (hg.block db h.lt fun e => h.apart.1 e.symm).trans h.row
/-- A head is moved. -/
theorem DeskAt.setH {w : World} {B db g n c k : Nat} {vc : Value} {r : Repo} {x : Head} {m : Int} (h : DeskAt w B db vc (.slice (some ⟨g, 0, none⟩) n c) r) (hx : r.2[k]? = some x) (hm : i64ok m) :
    DeskAt (w.setCell ⟨g, k * 2 + 1, none⟩ (.int .i64 m)) B db vc (.slice (some ⟨g, 0, none⟩) n c) (r.1, r.2.set k (x.1, m)) := by
  have hap := h.apart
  obtain ⟨g', cap, cs, hv, h1, h2, h3, h4, hrd, hcell, hf, hset⟩ := h.heads.setPart hx
  simp only [Value.slice.injEq, Option.some.injEq, Addr.mk.injEq, and_true] at hv
  obtain ⟨rfl, hn, rfl⟩ := hv
  obtain ⟨rfl, hok⟩ := hrd
  have hgd : db ≠ g := fun e => hap.2.1 (by rw [e]; rfl)
  refine ⟨h.low, (heap_setCell_other _ _ _ _ hgd).trans h.row, h.coms.keep fun k hk _ => heap_setCell_other _ _ _ _ ?_, ?_⟩
  · rcases hk with hk | hk
    · intro e; exact hk.1.2 (by rw [e]; rfl)
    · intro e; exact hap.2.2 k hk (by rw [e]; rfl)
  · exact hset 1 (.int .i64 m) (x.1, m) (by decide) ⟨rfl, hm, hok.2⟩

set_option maxHeartbeats 2000000 in
theorem deskGrow (B db g n : Nat) (vc vh vr : Value) (r : Repo) (s : ByteArray) (rows : List Row) (qs : List Int) (wM w : World) (hM : DeskAt wM B db vc vh r) (hBM : Step (fun k => wM.heap.size ≤ k) wM w) (hBs : B ≤ wM.heap.size) (hg : wM.heap.size ≤ g)
    (hsort : Calls Tryz.prog 77 #[.slice (some ⟨g, 0, none⟩) n n] w fun e w' => e = .returned (.tuple #[]) ∧ w.grownBy w' (some g) ∧ Sl tInt w' (fun k => k = g) (.slice (some ⟨g, 0, none⟩) n n) qs)
    (hrows : Sl tRow w (fun k => wM.heap.size ≤ k ∧ k ≠ g) vr rows) (hr : headsRise r.1.length [] r.2 = true) (hl1 : r.1.length ≤ 1000) (hl : r.2.length ≤ 1000) (hh : hdHas r.2 s = true) :
    Calls Tryz.prog 44 #[.pointer (some ⟨db, 0, none⟩), .string s, vr, .slice (some ⟨g, 0, none⟩) n n] w fun e w' => e = .returned (.tuple #[]) ∧ (∃ vc', DeskAt w' B db vc' vh (grown r (hdN r.2 s) rows qs)) ∧ Below B w w' := by
  have h0 := hM.step hBM fun k hk => by omega
  have hvc : ∀ k, vc.ownBlock = some k → k < wM.heap.size := fun k hk => (hM.coms.block k hk).2
  have hvh : ∀ k, vh.ownBlock = some k → k < wM.heap.size := fun k hk => (hM.heads.block k hk).2
  have hdb := hM.lt
  have HM := keepBack hM
  have HBM := keepBack hBM
  have sM := hBM.size
  clear hM hBM
  go_enter Tryz.func44, Tryz.ntmps44
  go_wp2_with fail
  refine hsort.mono ?_; rintro e w1 ⟨rfl, hg1, hq1⟩
  clear hsort
  have st1 : Step (fun k => k = g) w w1 := Step.grown hg1 fun k hk => (Option.some.inj hk).symm
  have s1 := st1.size
  have h1 : DeskAt w1 B db vc vh r := HM.out.step (HBM.out.trans st1 fun k _ e => by omega) fun k hk => by omega
  have hrows1 : Sl tRow w1 (fun k => wM.heap.size ≤ k) vr rows := (hrows.step st1 fun k hk => hk.2).mono fun k hk _ => hk.1
  have hq1' : Sl tInt w1 (fun k => wM.heap.size ≤ k) (.slice (some ⟨g, 0, none⟩) n n) qs := hq1.mono fun k hk _ => by omega
  have b1 : Step (fun k => wM.heap.size ≤ k) wM w1 := HBM.out.trans st1 fun k _ e => by omega
  have bw1 : Below B w w1 := st1.below (fun k hk => by omega) (by omega)
  obtain ⟨ar, cr, rfl, _, _, _⟩ := hrows1.shape
  obtain ⟨ac, cc, rfl, _, _⟩ := h1.coms.shape
  have c0 := h1.cell0
  have c1 := h1.cell1
  have f0 := h1.free 0
  clear hrows hq1 h0
  have oA := (Below.refl w1.heap.size w1).alloc (Nat.le_refl _) (.cells #[.slice ar rows.length cr, .slice (some ⟨g, 0, none⟩) n n] 42)
  have h1A := h1.call oA
  have hsrc : Src tCommit (w1.alloc (.cells #[.slice ar rows.length cr, .slice (some ⟨g, 0, none⟩) n n] 42)) (fun k => wM.heap.size ≤ k) (some ⟨w1.heap.size, 0, none⟩) [(rows, qs)] := Src.one (tCommit_mk (hrows1) (hq1')) _
  go_wp2_with (at_builtin; refine wpList_grow rfl (.tmp 15) (.tmp 19) rfl aCom rfl h1A.coms rfl rfl hsrc (by simp) (fun k hk _ => ⟨⟨⟨by omega, fun e => by have := hvh k e.symm; omega⟩, by omega⟩, fun e => by have := hvc k e.symm; omega⟩) (by simp; omega) (by simp; omega) ?_)
  intro v2 w2 ho2 hg2
  have hD2 := h1A.setC ho2 hg2
  have f2 := frozen_of_row w2 db 0 _ _ (h1A.rowOf hg2)
  have c2 : w2.cell? ⟨db, 0, none⟩ = some (.slice ac r.1.length cc) := by rw [World.cell?, h1A.rowOf hg2]; rfl
  have z2 : w2.heap.size = (w2.setCell ⟨db, 0, none⟩ v2).heap.size := by simp
  have z1 : w1.heap.size < w2.heap.size := Nat.lt_of_lt_of_le (by simp) hg2.size
  have bw2 : Below B w (w2.setCell ⟨db, 0, none⟩ v2) := ((bw1.alloc (by omega) _).grown hg2 (by simp; omega) (fun k hk => (h1.coms.block k hk).1)).setCell h1.low _
  obtain ⟨a2, cc2, hv2, _, _⟩ := ho2.shape
  rw [show (r.1 ++ [(rows, qs)]).length = r.1.length + 1 by simp] at hv2
  subst hv2
  obtain ⟨w3, hw3⟩ : ∃ w3, w3 = w2.setCell ⟨db, 0, none⟩ (.slice a2 (r.1.length + 1) cc2) := ⟨_, rfl⟩
  rw [← hw3] at hD2 bw2 z2
  have HW3 := keepBack hw3
  have hap := hD2.apart
  obtain ⟨x, hx, hxs⟩ : ∃ x, r.2[hdN r.2 s]? = some x ∧ x.1.toList = s.toList := by
    unfold hdHas at hh
    cases hx : r.2[hdN r.2 s]? with
    | none => rw [hx] at hh; cases hh
    | some x => exact ⟨x, rfl, by rw [hx] at hh; simpa using hh⟩
  obtain ⟨gh, ch, cur, xs, rfl, hgB, hgs, _, _, _, _, _, _⟩ := hD2.heads.cells (l := r.2) (by have := (List.getElem?_eq_some_iff.1 hx).1; omega)
  have hgd : gh ≠ db := fun e => hap.2.1 (by rw [e]; rfl)
  have HC : ∀ W, Below w3.heap.size w3 W → Calls Tryz.prog 49 #[.pointer (some ⟨db, 0, none⟩), .string s] W (Ret W fun x _ => x = .pointer (some ⟨gh, hdN r.2 s * 2, none⟩)) := fun W hW =>
    (deskHead B db _ _ (r.1 ++ [(rows, qs)], r.2) s W (hD2.call hW) (headsRise_more (by simp) hr) hl hh).mono fun e w' ⟨v, h1, ⟨g', n', c', h2, h3⟩, h4⟩ => ⟨v, h1, by
      simp only [Value.slice.injEq, Option.some.injEq, Addr.mk.injEq, and_true] at h2
      rw [h3, h2.1], h4⟩
  have HFX : ∀ W, Below w3.heap.size w3 W → W.frozen? ⟨gh, hdN r.2 s * 2 + 1, none⟩ = false ∧ W.cell? ⟨gh, hdN r.2 s * 2 + 1, none⟩ = some (.int .i64 x.2) ∧ W.cell? ⟨db, 0, none⟩ = some (.slice a2 (r.1.length + 1) cc2) := fun W hW => by
    have hWd := hD2.call hW
    obtain ⟨g', cap, cs, hv, _, _, _, _, ⟨rfl, _⟩, hcell, hf, _⟩ := hWd.heads.setPart hx
    simp only [Value.slice.injEq, Option.some.injEq, Addr.mk.injEq, and_true] at hv
    rw [hv.1]
    exact ⟨hf _, hcell 1 _ rfl, hWd.cell0⟩
  have HSET : Hid (∀ W, Below w3.heap.size w3 W → ∀ m, i64ok m → DeskAt (W.setCell ⟨gh, hdN r.2 s * 2 + 1, none⟩ (.int .i64 m)) B db (.slice a2 (r.1.length + 1) cc2) (.slice (some ⟨gh, 0, none⟩) r.2.length ch) (r.1 ++ [(rows, qs)], r.2.set (hdN r.2 s) (x.1, m))) := keepBack fun W hW m hm => (hD2.call hW).setH hx hm
  have HGR : Hid (grown r (hdN r.2 s) rows qs = (r.1 ++ [(rows, qs)], r.2.set (hdN r.2 s) (x.1, r.1.length))) := keepBack (by rw [grown, moved_is hx])
  have a0 := hD2.cell0
  rw [hw3] at a0
  clear hw3 ho2 hg2 h1A hsrc oA hq1' hrows1 c0 c1 f0 h1 HM HBM b1 st1 hg1 hap hx hxs
  generalize hkk : hdN r.2 s = kk at HC HFX HSET HGR
  have HKK := keepBack hkk
  clear hkk
  have HNX : ∀ (W : World) u, W.cell? ⟨db, 0, none⟩ = some (.slice a2 (r.1.length + 1) cc2) → (W.setCell ⟨gh, kk * 2 + 1, none⟩ u).cell? ⟨db, 0, none⟩ = some (.slice a2 (r.1.length + 1) cc2) := fun W u h => (World.cell?_of_block (w := W) (heap_setCell_other _ _ _ _ (by simp; omega))).trans h
  have hwr : IntKind.i64.wrap (r.1.length : Int) = (r.1.length : Int) := by rw [IntKind.wrap_i64]; omega
  go_wp2_with fail
  rw [← HW3.out]
  have b3 : Below w3.heap.size w3 w3.drew := (Below.refl _ _).drew
  obtain ⟨ff3, fx3, a3⟩ := HFX _ b3
  go_region_held3 (fun W => W.cell? ⟨db, 0, none⟩ = some (.slice a2 (r.1.length + 1) cc2))
    (first
      | exact a3
      | exact a4
      | exact (HFX _ (Below.refl _ _)).2.2
      | exact HNX _ _ (by assumption)
      | fail)
    (first
      | (go_at_call 49; refine (HC _ b3).mono ?_; rintro e w4 ⟨_, rfl, rfl, b4⟩; have b34 := b3.trans (b4.mono b3.size); obtain ⟨ff4, fx4, a4⟩ := HFX _ b34)
      | fail)
  go_wp2_with fail
  go_end0
  have hfin := HSET.out w4 b34 (r.1.length : Int) (by unfold i64ok; omega)
  rw [← HGR.out] at hfin
  have hbel : Below B w (w4.setCell ⟨gh, kk * 2 + 1, none⟩ (.int .i64 r.1.length)) := (bw2.trans (b34.mono (by omega))).setCell hgB _
  exact ⟨rfl, ⟨.slice a2 (r.1.length + 1) cc2, by rw [HKK.out]; exact hfin⟩, hbel⟩

end Go.Pch
end

section
namespace Go.Pch
open Go.RowKit Go.Proofs

theorem rowsKey (k : Int) (w : World) : Calls Tryz.prog 130 #[.int .i64 k] w fun e w' => e = .returned (.bool (keyB k)) ∧ w = w' := by
  go_enter Tryz.func130, Tryz.ntmps130
  go_wp2
  all_goals
    go_ret
    refine ⟨ret_bool ?_, rfl⟩
    rw [Bool.eq_iff_iff]; simp [keyB] <;> omega

theorem rowsVal (k : Int) (w : World) : Calls Tryz.prog 73 #[.int .i64 k] w fun e w' => e = .returned (.bool (valB k)) ∧ w = w' := by
  go_enter Tryz.func73, Tryz.ntmps73
  go_wp2
  all_goals
    go_ret
    refine ⟨ret_bool ?_, rfl⟩
    rw [Bool.eq_iff_iff]; simp [valB] <;> omega

end Go.Pch
end

section
namespace Go.Pch
open Go.RowKit Go.Proofs

theorem rowGuard : Tryz.prog.eqGuardType Tryz.prog.depth 44 = false := by kernel_rfl
theorem rowHeld : Tryz.prog.stoodInHeld 44 = false := by kernel_rfl
theorem rowStruct : Tryz.prog.underlying 44 = some (.struct (Tryz.prog.fieldsOf 44)) := by kernel_rfl
theorem rowFields : (Tryz.prog.fieldsOf 44).toList.map (fun f => (f.type, f.offset, f.name)) = [(3, 0, "Key"), (3, 1, "Val")] := by kernel_rfl
theorem two_of_map {α β : Type} {f : α → β} {l : List α} {x y : β} (h : l.map f = [x, y]) : ∃ a b, l = [a, b] ∧ f a = x ∧ f b = y := by
  match l, h with
  | [a, b], h => simp at h; exact ⟨a, b, rfl, h.1, h.2⟩
theorem rowEqual (a b c d : Int) (W : World) : Sem.run Tryz.prog (Op.equalIn 10000 44 (.agg #[.int .i64 a, .int .i64 b]) (.agg #[.int .i64 c, .int .i64 d])) W = .ok (decide ((a, b) = (c, d))) W := by
  obtain ⟨f, g, h1, h2, h3⟩ := two_of_map rowFields
  simp only [Prod.mk.injEq] at h2 h3
  obtain ⟨h21, h22, h23⟩ := h2
  obtain ⟨h31, h32, h33⟩ := h3
  rw [show (10000 : Nat) = 9999 + 1 from rfl, run_equalIn_struct W 9999 _ _ _ rowStruct rowHeld, h1]
  have e := fun x y W => run_equalIn_int (P := Tryz.prog) W 9998 3 .i64 .i64 x y Tryz.underlying3
  simp only [Nat.reduceAdd] at e
  by_cases ha : a = c <;> by_cases hb : b = d <;> simp [Op.eqFields, h21, h22, h23, h31, h32, h33, part, e, ha, hb]

end Go.Pch
end

section
namespace Go.Pch
open Go.RowKit Go.Proofs

theorem chunkLevel (k : Int) (w : World) : Calls Tryz.prog 131 #[.int .i64 k] w fun e w' => e = .returned (.bool (levB k)) ∧ w = w' := by
  go_enter Tryz.func131, Tryz.ntmps131
  go_wp2
  all_goals
    go_ret
    refine ⟨ret_bool ?_, rfl⟩
    rw [Bool.eq_iff_iff]; simp [levB] <;> omega
theorem chunkLevel_of (k : Int) (w : World) {c : Bool} (h : levB k = c) : Calls Tryz.prog 131 #[.int .i64 k] w fun e w' => e = .returned (.bool c) ∧ w = w' := h ▸ chunkLevel k w
theorem rowsKey_of (k : Int) (w : World) {c : Bool} (h : keyB k = c) : Calls Tryz.prog 130 #[.int .i64 k] w fun e w' => e = .returned (.bool c) ∧ w = w' := h ▸ rowsKey k w
theorem rowsVal_of (k : Int) (w : World) {c : Bool} (h : valB k = c) : Calls Tryz.prog 73 #[.int .i64 k] w fun e w' => e = .returned (.bool c) ∧ w = w' := h ▸ rowsVal k w

set_option maxHeartbeats 400000 in
theorem refEndsOf (r : Row) (n : Int) (w : World) :
    Calls Tryz.prog 93 #[.agg #[.int .i64 r.1, .int .i64 r.2], .int .i64 n] w (Ret w fun v _ => v = .bool (endsB r n)) := by
  cases hk : keyB r.1 with
  | false =>
    go_enter Tryz.func93, Tryz.ntmps93
    go_wp2_with (go_at_call 18; refine (refIsKey_of _ _ hk).mono ?_; rintro e w' ⟨rfl, rfl⟩)
    go_ret
    exact ⟨_, rfl, by rw [endsB_key hk]; rfl, (Below.refl _ _).alloc (Nat.le_refl _) _⟩
  | true =>
    have hk' := key_yes hk
    cases hv : (decide (0 ≤ r.2) && decide (r.2 ≤ 996)) with
    | false =>
      go_enter Tryz.func93, Tryz.ntmps93
      go_wp2_with (first | (go_at_call 18; refine (refIsKey_of _ _ hk).mono ?_; rintro e w' ⟨rfl, rfl⟩) | (go_at_call 17; refine (refWithin_of _ _ _ _ hv).mono ?_; rintro e w' ⟨rfl, rfl⟩))
      go_ret
      exact ⟨_, rfl, by rw [endsB_val hv]; rfl, (Below.refl _ _).alloc (Nat.le_refl _) _⟩
    | true =>
      have hv' := hv
      simp only [Bool.and_eq_true, decide_eq_true_eq] at hv'
      obtain ⟨hv1, hv2⟩ := hv'
      cases hn : levB n with
      | false =>
        go_enter Tryz.func93, Tryz.ntmps93
        go_wp2_with fail
        refine (refIsKey_of _ _ hk).mono ?_; rintro e w' ⟨rfl, rfl⟩
        go_wp2_with fail
        refine (refWithin_of _ _ _ _ hv).mono ?_; rintro e w' ⟨rfl, rfl⟩
        go_wp2_with fail
        refine (refWithin_of _ _ _ _ hn).mono ?_; rintro e w' ⟨rfl, rfl⟩
        go_wp2_with fail
        go_ret
        exact ⟨_, rfl, by rw [endsB_lev hn]; rfl, (Below.refl _ _).alloc (Nat.le_refl _) _⟩
      | true =>
        have hn' := hn
        simp only [levB, Bool.and_eq_true, decide_eq_true_eq] at hn'
        obtain ⟨hn1, hn2⟩ := hn'
        go_enter Tryz.func93, Tryz.ntmps93
        go_wp2_with fail
        refine (refIsKey_of _ _ hk).mono ?_; rintro e w' ⟨rfl, rfl⟩
        go_wp2_with fail
        refine (refWithin_of _ _ _ _ hv).mono ?_; rintro e w' ⟨rfl, rfl⟩
        go_wp2_with fail
        refine (refWithin_of _ _ _ _ hn).mono ?_; rintro e w' ⟨rfl, rfl⟩
        go_wp2_with fail
        go_ret
        exact ⟨_, rfl, by rw [endsB_go hk hv hn]; rfl, (Below.refl _ _).alloc (Nat.le_refl _) _⟩

set_option maxHeartbeats 400000 in
theorem chunkEnds (r : Row) (n : Int) (w : World) :
    Calls Tryz.prog 107 #[.agg #[.int .i64 r.1, .int .i64 r.2], .int .i64 n] w (Ret w fun v _ => v = .bool (endsB r n)) := by
  cases hk : keyB r.1 with
  | false =>
    go_enter Tryz.func107, Tryz.ntmps107
    go_wp2_with (go_at_call 130; refine (rowsKey_of _ _ hk).mono ?_; rintro e w' ⟨rfl, rfl⟩)
    go_ret
    exact ⟨_, rfl, by rw [endsB_key hk]; rfl, (Below.refl _ _).alloc (Nat.le_refl _) _⟩
  | true =>
    have hk' := key_yes hk
    cases hv : (decide (0 ≤ r.2) && decide (r.2 ≤ 996)) with
    | false =>
      by_cases hm : r.2 = -1
      · have hm' : (r.2 == -1) = true := by simp [hm]
        have hm2 : (r.2 != -1) = false := by simp [hm]
        clear hm
        go_enter Tryz.func107, Tryz.ntmps107
        go_wp2_with (go_at_call 130; refine (rowsKey_of _ _ hk).mono ?_; rintro e w' ⟨rfl, rfl⟩)
        go_ret
        exact ⟨_, rfl, by rw [endsB_val hv]; rfl, (Below.refl _ _).alloc (Nat.le_refl _) _⟩
      · have hm' : (r.2 == -1) = false := by simp [hm]
        have hm2 : (r.2 != -1) = true := by simp [hm]
        have hvv : valB r.2 = false := by
          simp only [Bool.and_eq_false_iff, decide_eq_false_iff_not] at hv
          simp only [valB, Bool.and_eq_false_iff, decide_eq_false_iff_not]; omega
        go_enter Tryz.func107, Tryz.ntmps107
        go_wp2_with (first | (go_at_call 130; refine (rowsKey_of _ _ hk).mono ?_; rintro e w' ⟨rfl, rfl⟩) | (go_at_call 73; refine (rowsVal_of _ _ hvv).mono ?_; rintro e w' ⟨rfl, rfl⟩))
        go_ret
        exact ⟨_, rfl, by rw [endsB_val hv]; rfl, (Below.refl _ _).alloc (Nat.le_refl _) _⟩
    | true =>
      have hv' := hv
      simp only [Bool.and_eq_true, decide_eq_true_eq] at hv'
      obtain ⟨hv1, hv2⟩ := hv'
      have hm' : (r.2 == -1) = false := by simp; omega
      have hm2 : (r.2 != -1) = true := by simp; omega
      have hvv : valB r.2 = true := by simp [valB]; omega
      cases hn : levB n with
      | false =>
        go_enter Tryz.func107, Tryz.ntmps107
        go_wp2_with (first | (go_at_call 130; refine (rowsKey_of _ _ hk).mono ?_; rintro e w' ⟨rfl, rfl⟩) | (go_at_call 73; refine (rowsVal_of _ _ hvv).mono ?_; rintro e w' ⟨rfl, rfl⟩) | (go_at_call 131; refine (chunkLevel_of _ _ hn).mono ?_; rintro e w' ⟨rfl, rfl⟩))
        go_ret
        exact ⟨_, rfl, by rw [endsB_lev hn]; rfl, (Below.refl _ _).alloc (Nat.le_refl _) _⟩
      | true =>
        have hn' := hn
        simp only [levB, Bool.and_eq_true, decide_eq_true_eq] at hn'
        obtain ⟨hn1, hn2⟩ := hn'
        go_enter Tryz.func107, Tryz.ntmps107
        go_wp2_with (first | (go_at_call 130; refine (rowsKey_of _ _ hk).mono ?_; rintro e w' ⟨rfl, rfl⟩) | (go_at_call 73; refine (rowsVal_of _ _ hvv).mono ?_; rintro e w' ⟨rfl, rfl⟩) | (go_at_call 131; refine (chunkLevel_of _ _ hn).mono ?_; rintro e w' ⟨rfl, rfl⟩))
        go_ret
        exact ⟨_, rfl, by rw [endsB_go hk hv hn]; rfl, (Below.refl _ _).alloc (Nat.le_refl _) _⟩

set_option maxHeartbeats 400000 in
theorem chunkOf (v : Value) (l : List Row) (S : Blk) (w : World) (h : Sl tRow w S v l) (hf : fineB l = true) :
    Calls Tryz.prog 90 #[v] w (Ret w fun r _ => r = .int .i64 (sumL l)) := by
  obtain ⟨ao, cap, rfl, hcap, hmax, hnil⟩ := h.shape
  unfold maxLen at hmax
  go_enter Tryz.func90, Tryz.ntmps90
  go_wp2
  go_loopw [3, 8] (fun n i wr => ∃ (k : Nat) (m : Int), k ≤ l.length ∧ i = .int .i64 k ∧ n = .int .i64 m ∧ 0 ≤ m ∧ m ≤ 996 ∧ Below w.heap.size w wr ∧ Hid (m = (l.take k).foldl sumStep 1)) (fun _ i _ => l.length - (intOf i).toNat)
  case atStart => exact ⟨0, 1, Nat.zero_le _, rfl, rfl, by omega, by omega, Below.refl _ _, rfl⟩
  case round =>
    obtain ⟨k, m, hk, rfl, rfl, hm0, hm1, hb, hm⟩ := hrel
    by_cases hlt : k < l.length
    · obtain ⟨b, o, hix, _, hbs, ok1, ok2, hc0, hc1⟩ := (h.call hb).idxRow aRow k k rfl hlt
      have hfi := fine_get hf hlt
      go_wp2
      go_roundw
      case rel => exact ⟨k + 1, _, by omega, by go_num, rfl, by omega, by omega, hb.alloc hb.size _, by rw [fold_take hlt, ← hm.out]; rfl⟩
      case measure => simp [intOf]; omega
    · go_wp2
      go_ret
      exact ⟨_, rfl, by rw [hm.out, List.take_of_length_le (by omega)]; rfl, hb⟩

set_option maxHeartbeats 400000 in
theorem refSum (v : Value) (l : List Row) (S : Blk) (w : World) (h : Sl tRow w S v l) (hf : fineB l = true) :
    Calls Tryz.prog 64 #[v] w (Quiet w (.int .i64 (sumL l))) := by
  obtain ⟨ao, cap, rfl, hcap, hmax, hnil⟩ := h.shape
  unfold maxLen at hmax
  go_enter Tryz.func64, Tryz.ntmps64
  go_wp2
  go_loopw [3, 4] (fun n i wr => ∃ (k : Nat) (m : Int), k ≤ l.length ∧ i = .int .i64 k ∧ n = .int .i64 m ∧ 0 ≤ m ∧ m ≤ 996 ∧ Drawn w wr ∧ Hid (m = (l.take k).foldl sumStep 1)) (fun _ i _ => l.length - (intOf i).toNat)
  case atStart => exact ⟨0, 1, Nat.zero_le _, rfl, rfl, by omega, by omega, .refl _, rfl⟩
  case round =>
    obtain ⟨k, m, hk, rfl, rfl, hm0, hm1, hd, hm⟩ := hrel
    by_cases hlt : k < l.length
    · obtain ⟨b, o, hix, _, hbs, ok1, ok2, hc0, hc1⟩ := (h.call hd.below).idxRow aRow k k rfl hlt
      have hfi := fine_get hf hlt
      go_wp2
      go_quiet (fail)
      go_wp2
      go_roundw
      case rel => exact ⟨k + 1, _, by omega, by go_num, rfl, by omega, by omega, hd.next _, by rw [fold_take hlt, ← hm.out]; rfl⟩
      case measure => simp [intOf]; omega
    · go_wp2
      go_ret
      exact ⟨by rw [hm.out, List.take_of_length_le (by omega)]; rfl, hd⟩

set_option maxRecDepth 100000 in
set_option maxHeartbeats 400000 in
theorem refSameRows (v u : Value) (l m : List Row) (S S' : Blk) (w : World) (h : Sl tRow w S v l) (g : Sl tRow w S' u m) :
    Calls Tryz.prog 13 #[v, u] w (Quiet w (.bool (decide (l = m)))) := by
  obtain ⟨ao, cap, rfl, hcap, hmax, hnil⟩ := h.shape
  obtain ⟨ao', cap', rfl, hcap', hmax', hnil'⟩ := g.shape
  unfold maxLen at hmax hmax'
  by_cases he : l.length = m.length
  · have hne : (((l.length : Nat) : Int) != (m.length : Int)) = false := by simp [he]
    have hl1 : l.length ≤ m.length := by omega
    have hl2 : m.length ≤ l.length := by omega
    clear he
    go_enter Tryz.func13, Tryz.ntmps13
    go_wp2
    go_loopw [5] (fun i wr => ∃ (k : Nat), k ≤ l.length ∧ i = .int .i64 k ∧ Drawn w wr ∧ Hid (l.take k = m.take k)) (fun i _ => l.length - (intOf i).toNat)
    case atStart => exact ⟨0, Nat.zero_le _, rfl, .refl _, rfl⟩
    case round =>
      obtain ⟨k, hk, rfl, hd, hm⟩ := hrel
      by_cases hlt : k < l.length
      · obtain ⟨b, o, hix, _, hbs, ok1, ok2, hc0, hc1⟩ := (h.call hd.below).idxRow aRow k k rfl hlt
        obtain ⟨b', o', hix', _, hbs', ok1', ok2', hc0', hc1'⟩ := (g.call hd.below).idxRow aRow k k rfl (by omega)
        have hg := rowGuard
        have he := rowEqual l[k].1 l[k].2 m[k].1 m[k].2
        go_wp2
        go_quiet (fail)
        go_wp2
        · have hx : (!decide (l[k].1 = m[k].1)) = true ∨ (!decide (l[k].2 = m[k].2)) = true := by assumption
          go_ret
          refine ⟨ret_no fun e => ?_, hd.next _⟩
          subst e
          simp at hx
        · have hx : (!decide (l[k].1 = m[k].1)) = false ∧ (!decide (l[k].2 = m[k].2)) = false := by assumption
          go_roundw
          case rel => exact ⟨k + 1, by omega, by go_num, hd.next _, take_more hlt (by omega) hm.out (by simp at hx; exact Prod.ext hx.1 hx.2)⟩
          case measure => simp [intOf]; omega
      · go_wp2
        go_ret
        exact ⟨ret_yes (take_all hlt hl1 hl2 hm.out), hd⟩
  · have hne : (((l.length : Nat) : Int) != (m.length : Int)) = true := by simp; omega
    go_enter Tryz.func13, Tryz.ntmps13
    go_wp2
    go_ret
    exact ⟨ret_no fun e => he (by rw [e]), .refl _⟩

end Go.Pch
end

section
namespace Go.Pch
open Go.RowKit Go.Proofs

/-- What cmp.Compare says. -/
def cmpI (a b : Int) : Int := if a < b then -1 else if b < a then 1 else 0

theorem notNaN (a : Int) (w : World) : Calls Tryz.prog 133 #[.int .i64 a] w fun e w' => e = .returned (.bool false) ∧ w = w' := by
  have h : (a != a) = false := by simp
  go_enter Tryz.func133, Tryz.ntmps133
  go_wp2
  go_ret
  exact ⟨rfl, rfl⟩
theorem compareInt (a b : Int) (w : World) : Calls Tryz.prog 114 #[.int .i64 a, .int .i64 b] w fun e w' => e = .returned (.int .i64 (cmpI a b)) ∧ w = w' := by
  rcases Int.lt_trichotomy a b with h | h | h
  · have hc : cmpI a b = -1 := by rw [cmpI, if_pos h]
    rw [hc]
    go_enter Tryz.func114, Tryz.ntmps114
    go_wp2_with (go_at_call 133; refine (notNaN _ _).mono ?_; rintro e w' ⟨rfl, rfl⟩)
    go_ret
    exact ⟨rfl, rfl⟩
  · subst h
    have hc : cmpI a a = 0 := by rw [cmpI, if_neg (by omega), if_neg (by omega)]
    rw [hc]
    go_enter Tryz.func114, Tryz.ntmps114
    go_wp2_with (go_at_call 133; refine (notNaN _ _).mono ?_; rintro e w' ⟨rfl, rfl⟩)
    go_ret
    exact ⟨rfl, rfl⟩
  · have h' : ¬ a < b := by omega
    have hc : cmpI a b = 1 := by rw [cmpI, if_neg h', if_pos h]
    rw [hc]
    go_enter Tryz.func114, Tryz.ntmps114
    go_wp2_with (go_at_call 133; refine (notNaN _ _).mono ?_; rintro e w' ⟨rfl, rfl⟩)
    go_ret
    exact ⟨rfl, rfl⟩
theorem seek1 (a b key : Int) (w : World) : Calls Tryz.prog 113 #[.agg #[.int .i64 a, .int .i64 b], .int .i64 key] w (Ret w fun r _ => r = .int .i64 (cmpI a key)) := by
  go_enter Tryz.func113, Tryz.ntmps113
  go_wp2_with (go_at_call 114; refine (compareInt _ _ _).mono ?_; rintro e w' ⟨rfl, rfl⟩)
  go_ret
  exact ⟨_, rfl, rfl, (Below.refl _ _).alloc (Nat.le_refl _) _⟩

set_option maxRecDepth 100000 in
set_option maxHeartbeats 1000000 in
theorem searchRows (v : Value) (l : List Row) (key : Int) (S : Blk) (w : World) (h : Sl tRow w S v l) (hr : riseB (-1) l = true) (hl : l.length ≤ 1000000) :
    Calls Tryz.prog 112 #[v, .int .i64 key, .func (.func 113) #[] #[]] w (Ret w fun r _ => r = .tuple #[.int .i64 (seekN l key : Nat), .bool (hasB l key)]) := by
  have hv := h.old
  obtain ⟨ao, cap, rfl, hcap, hmax, hnil⟩ := h.shape
  unfold maxLen at hmax
  have HR := keepBack hr
  clear hr
  go_enter Tryz.func112, Tryz.ntmps112
  go_wp2
  go_loopw [9, 10] (fun a b wr => ∃ (i j : Nat), i ≤ j ∧ j ≤ l.length ∧ a = .int .i64 i ∧ b = .int .i64 j ∧ Below w.heap.size w wr ∧ Hid (∀ (k : Nat) (hk : k < l.length), k < i → l[k].1 < key) ∧ Hid (∀ (k : Nat) (hk : k < l.length), j ≤ k → key ≤ l[k].1)) (fun a b _ => (intOf b).toNat - (intOf a).toNat)
  case atStart => exact ⟨0, l.length, Nat.zero_le _, Nat.le_refl _, rfl, rfl, Below.refl _ _, fun k _ h => by omega, fun k hk h => by omega⟩
  case round =>
    obtain ⟨i, j, hij, hjl, rfl, rfl, hb, H1, H2⟩ := hrel
    have hs := hb.size
    by_cases hlt : i < j
    · obtain ⟨m, hmm, hm1, hm2⟩ : ∃ m : Nat, ((i : Int) + (j : Int)) / 2 = (m : Int) ∧ i ≤ m ∧ m < j := ⟨(i + j) / 2, by omega, by omega, by omega⟩
      have hml : m < l.length := by omega
      obtain ⟨b, o, hix, _, hbs, ok1, ok2, hc0, hc1⟩ := (hv.below hb).idxRow aRow m m rfl hml
      have HLo := keepBack (fun (hlo : l[m].1 < key) (k : Nat) (hk : k < l.length) (hkm : k < m + 1) => show l[k].1 < key by
        have hr := HR.out
        rcases Nat.lt_or_ge k m with h1 | h1
        · have := rise_lt hr h1 hml; omega
        · obtain rfl : k = m := by omega
          exact hlo)
      have HHi := keepBack (fun (hhi : key ≤ l[m].1) (k : Nat) (hk : k < l.length) (hkm : m ≤ k) => show key ≤ l[k].1 by
        have hr := HR.out
        rcases Nat.lt_or_ge m k with h1 | h1
        · have := rise_lt hr h1 hk; omega
        · obtain rfl : k = m := by omega
          exact hhi)
      generalize l[m] = r at *
      by_cases hlo : r.1 < key
      · have HC := keepBack (show cmpI r.1 key = -1 by rw [cmpI, if_pos hlo])
        have H1' := keepBack (HLo.out hlo)
        clear hlo
        go_wp2_with fail
        refine (seek1 _ _ _ _).mono ?_; rintro e w1 ⟨_, rfl, rfl, b1⟩
        rw [HC.out]
        go_wp2
        go_roundw
        case rel => exact ⟨m + 1, j, by omega, hjl, by go_num, rfl, hb.trans (b1.mono hs), H1', H2⟩
        case measure => simp [intOf]; omega
      · have HC := keepBack (show 0 ≤ cmpI r.1 key by rw [cmpI, if_neg hlo]; split <;> omega)
        have H2' := keepBack (HHi.out (by omega))
        clear hlo
        go_wp2_with fail
        refine (seek1 _ _ _ _).mono ?_; rintro e w1 ⟨_, rfl, rfl, b1⟩
        have hc' := HC.out
        generalize cmpI r.1 key = c at *
        go_wp2
        go_roundw
        case rel => exact ⟨i, m, hm1, by omega, rfl, rfl, hb.trans (b1.mono hs), H1, H2'⟩
        case measure => simp [intOf]; omega
    · obtain rfl : i = j := by omega
      have hsk := seekN_eq HR.out hjl H1.out H2.out
      by_cases hil : i < l.length
      · obtain ⟨b, o, hix, _, hbs, ok1, ok2, hc0, hc1⟩ := (hv.below hb).idxRow aRow i i rfl hil
        have HB := keepBack (show hasB l key = decide (l[i].1 = key) by rw [hasB, hsk, List.getElem?_eq_getElem hil])
        have HS := keepBack hsk
        clear hsk
        generalize l[i] = r at *
        have HQ : Hid ((cmpI r.1 key == 0) = decide (r.1 = key)) := keepBack (by
          rw [Bool.eq_iff_iff]
          simp only [beq_iff_eq, decide_eq_true_eq, cmpI]
          split
          · omega
          · split <;> omega)
        go_wp2_with fail
        refine (seek1 _ _ _ _).mono ?_; rintro e w1 ⟨_, rfl, rfl, b1⟩
        go_wp2
        go_ret2
        exact ⟨_, rfl, by rw [HS.out, HB.out, ← HQ.out]; rfl, hb.trans (b1.mono hs)⟩
      · obtain rfl : i = l.length := by omega
        have HB := keepBack (show hasB l key = false by rw [hasB, hsk, List.getElem?_eq_none (Nat.le_refl _)])
        have HS := keepBack hsk
        clear hsk
        go_wp2
        go_ret2
        exact ⟨_, rfl, by rw [HS.out, HB.out]; rfl, hb⟩

theorem rowsSeek (v : Value) (l : List Row) (key : Int) (S : Blk) (w : World) (h : Sl tRow w S v l) (hr : riseB (-1) l = true) (hl : l.length ≤ 1000000) :
    Calls Tryz.prog 99 #[v, .int .i64 key] w (Ret w fun r _ => r = .tuple #[.int .i64 (seekN l key : Nat), .bool (hasB l key)]) := by
  go_enter Tryz.func99, Tryz.ntmps99
  go_wp2_with fail
  refine (searchRows v l key S w h hr hl).mono ?_; rintro e w1 ⟨_, rfl, rfl, b1⟩
  go_wp2
  go_ret2
  exact ⟨_, rfl, rfl, b1⟩

theorem rowsOf (v : Value) (l : List Row) (key : Int) (S : Blk) (w : World) (h : Sl tRow w S v l) (hr : riseB (-1) l = true) (hl : l.length ≤ 1000000) :
    Calls Tryz.prog 75 #[v, .int .i64 key] w (Ret w fun r _ => r = .int .i64 (valueOf l key)) := by
  cases hk : hasB l key with
  | true =>
    obtain ⟨r, hr1, hr2, hr3⟩ := valueOf_has hr hk
    obtain ⟨hlt, hget⟩ := List.getElem?_eq_some_iff.1 hr1
    have HV := keepBack hr3
    have hsk := rowsSeek v l key S w h hr hl
    rw [hk] at hsk
    have hv := h.old
    obtain ⟨ao, cap, rfl, hcap, hmax, hnil⟩ := h.shape
    obtain ⟨b, o, hix, _, hbs, ok1, ok2, hc0, hc1⟩ := hv.idxRow aRow (seekN l key : Nat) (seekN l key) rfl hlt
    rw [hget] at hc0 hc1
    clear hget hr1 hr3 hr2
    generalize seekN l key = n at *
    go_enter Tryz.func75, Tryz.ntmps75
    go_wp2_with fail
    refine hsk.mono ?_; rintro e w1 ⟨_, rfl, rfl, b1⟩
    have hc1' := (b1.cell (p := ⟨b, o + 1, none⟩) hbs).trans hc1
    go_wp2
    go_ret
    exact ⟨_, rfl, by rw [HV.out]; rfl, b1⟩
  | false =>
    have HV := keepBack (valueOf_hasnt hr hk)
    have hsk := rowsSeek v l key S w h hr hl
    rw [hk] at hsk
    go_enter Tryz.func75, Tryz.ntmps75
    go_wp2_with fail
    refine hsk.mono ?_; rintro e w1 ⟨_, rfl, rfl, b1⟩
    go_wp2
    go_ret
    exact ⟨_, rfl, by rw [HV.out]; rfl, b1⟩


end Go.Pch
end
