/- The walk of treeBegun. -/
import Derived.Test.YtdbecbjhgiljoaaTreeH
import Derived.Test.YtdbecbjhgiljoaaTreeQ
namespace Go.Pch
open Go.RowKit Go.Proofs

theorem frozen_plain {w : World} {b o : Nat} {c : Array Value} {t : TypeId} (h : w.heap[b]? = some (.cells c t)) : w.frozen? ⟨b, o, none⟩ = false := by
  simp [World.frozen?, h]

/-- The first row of the first chunk of a tree in plain memory. -/
theorem fslice_first {w : World} {S : Blk} {v : Value} {t : List (List (List Row))} {X : List (List Row)} {c : List Row} {r : Row} (h : Sl tRow.fslice.slice w S v t) (hX : t[0]? = some X) (hc : X[0]? = some c) (hr : c[0]? = some r) :
    ∃ b0 o0 a0 c0 b1 o1 a1 c1 b2 o2, (∀ W, Sem.run Try.prog (Instr.indexAt 39 v (.int .i64 0)) W = .ok (.pointer (some ⟨b0, o0, none⟩)) W) ∧ w.cell? ⟨b0, o0, none⟩ = some (.slice a0 X.length c0) ∧
      (∀ W, Sem.run Try.prog (Instr.indexAt 23 (.slice a0 X.length c0) (.int .i64 0)) W = .ok (.pointer (some ⟨b1, o1, none⟩)) W) ∧ w.cell? ⟨b1, o1, none⟩ = some (.slice a1 c.length c1) ∧
      (∀ W, Sem.run Try.prog (Instr.indexAt 22 (.slice a1 c.length c1) (.int .i64 0)) W = .ok (.pointer (some ⟨b2, o2, none⟩)) W) ∧ w.cell? ⟨b2, o2 + 1, none⟩ = some (.int .i64 r.2) ∧ w.frozen? ⟨b2, o2 + 1, none⟩ = false ∧ S b2 ∧ b2 < w.heap.size := by
  obtain ⟨b0, o0, a0, c0, hix0, _, hb0, hs0, _, _, hc0⟩ := h.idxSlAt aFTree 0 0 X X.length rfl hX rfl
  have hlt : 0 < X.length := (List.getElem?_eq_some_iff.1 hc).1
  have hx0 : X[0] = c := (List.getElem?_eq_some_iff.1 hc).2
  obtain ⟨b1, o1, cs, hix1, _, hb1, hrd, hc1⟩ := hs0.idx aFLev 0 0 rfl hlt
  rw [hx0] at hrd
  have hlt2 : 0 < c.length := (List.getElem?_eq_some_iff.1 hr).1
  have hr0 : c[0] = r := (List.getElem?_eq_some_iff.1 hr).2
  obtain ⟨b, o, n, cp, rfl, hSb, hbb, cur, ty, hblk⟩ := hrd.2 (by intro e; simp [e] at hlt2)
  have hsl : Sl tRow w S (.slice (some ⟨b, o, none⟩) n cp) c := hrd.1
  obtain ⟨_, _, hv, _⟩ := hsl.shape
  simp at hv
  obtain rfl : n = c.length := hv.2.1
  obtain ⟨b2, o2, hix2, _, _, _, _, _, hv1⟩ := hsl.idxRow aRow 0 0 rfl hlt2
  have hru := run_idx (b := b) (o := o) (len := c.length) (cap := cp) aRow 0 0 rfl hlt2 w
  rw [hix2 w] at hru
  simp at hru
  obtain ⟨rfl, rfl⟩ := hru
  rw [hr0] at hv1
  exact ⟨b0, o0, a0, c0, b1, o1, _, _, b2, o2, hix0, hc0, hix1, by simpa using hc1 0 _ rfl, hix2, hv1, frozen_plain hblk, hSb, hbb⟩

theorem treeMany_is : buildP (manyL 12) = (treeMany, 0) := by decide
theorem buildNil_is : buildP [] = ([], 0) := by decide
theorem rowsMany_is : treeRows treeMany = (manyL 12, 0) := by decide
theorem rootMany_is : treeRoot treeMany = (topL treeMany, 0) := by decide
theorem rootNil_is : treeRoot [] = (1, 0) := by decide
theorem topMany : 0 ≤ topL treeMany := by decide

theorem treeBuild_of {c : List (List (List Row)) × Int} (v : Value) (l : List Row) (S : Blk) (w : World) (h : Sl tRow w S v l) (hc : buildP l = c) :
    Calls Try.prog 25 #[v] w (Ret w fun r w' => ∃ x, r = .tuple #[x, .int .i64 c.2] ∧ Sl tRow.slice.slice w' (fun k => w.heap.size ≤ k) x c.1) := hc ▸ treeBuild v l S w h
theorem treeRows_of {c : List Row × Int} (v : Value) (t : List (List (List Row))) (S : Blk) (w : World) (h : Sl tRow.slice.slice w S v t) (hl : (flatL t).length ≤ 2000000) (hc : treeRows t = c) :
    Calls Try.prog 29 #[v] w (Ret w fun r w' => ∃ x, r = .tuple #[x, .int .i64 c.2] ∧ Sl tRow w' (fun k => w.heap.size ≤ k) x c.1) := hc ▸ treeRowsC v t S w h hl
theorem treeRoot_of {c : Int × Int} (v : Value) (t : List (List (List Row))) (S : Blk) (w : World) (h : Sl tRow.slice.slice w S v t) (hl : (flatL t).length ≤ 2000000) (hc : treeRoot t = c) :
    Calls Try.prog 30 #[v] w (Ret w fun r _ => r = .tuple #[.int .i64 c.1, .int .i64 c.2]) := hc ▸ treeRootC v t S w h hl
theorem treeCheck_of {c : Int} (v : Value) (t : List (List (List Row))) (S : Blk) (w : World) (h : Sl tRow.slice.slice w S v t) (hl : (flatL t).length ≤ 2000000) (hc : treeErr t = c) :
    Calls Try.prog 34 #[v] w (Ret w fun r _ => r = .int .i64 c) := hc ▸ treeCheck v t S w h hl

theorem near_head {α : Type} {R : α → α → Prop} {l l' : List α} {x : α} (h : nearList R l l') (hx : l[0]? = some x) : ∃ x', l'[0]? = some x' ∧ R x x' := by
  have hl := (List.getElem?_eq_some_iff.1 hx).1
  have h1 := h.1
  exact ⟨l'[0], List.getElem?_eq_getElem (by omega), h.2 0 x _ hx (List.getElem?_eq_getElem (by omega))⟩

theorem first_nine {w : World} {S : Blk} {v : Value} {t t' : List (List (List Row))} {X : List (List Row)} {c : List Row} {r : Row} {n : Int} {d0 f0 d1 f1 d2 f2 : Nat} {g0 g1 : Option Addr} {c0 c1 : Nat}
    (hn : nearList (nearList (nearList nearRow)) t t') (hX : t[0]? = some X) (hc : X[0]? = some c) (hr : c[0]? = some r) (h : Sl tRow.slice.slice (w.setCell ⟨d2, f2 + 1, none⟩ (.int .i64 9)) S v t')
    (ix0 : ∀ W, Sem.run Try.prog (Instr.indexAt 39 v (.int .i64 0)) W = .ok (.pointer (some ⟨d0, f0, none⟩)) W) (cl0 : w.cell? ⟨d0, f0, none⟩ = some (.slice g0 X.length c0))
    (ix1 : ∀ W, Sem.run Try.prog (Instr.indexAt 23 (.slice g0 X.length c0) (.int .i64 0)) W = .ok (.pointer (some ⟨d1, f1, none⟩)) W) (cl1 : w.cell? ⟨d1, f1, none⟩ = some (.slice g1 c.length c1))
    (ix2 : ∀ W, Sem.run Try.prog (Instr.indexAt 22 (.slice g1 c.length c1) (.int .i64 0)) W = .ok (.pointer (some ⟨d2, f2, none⟩)) W) (cl2 : w.cell? ⟨d2, f2 + 1, none⟩ = some (.int .i64 n)) :
    ∃ x y r, t'[0]? = some x ∧ x[0]? = some y ∧ y[0]? = some r ∧ r.2 = 9 := by
  obtain ⟨x, hx, nx⟩ := near_head hn hX
  obtain ⟨y, hy, ny⟩ := near_head nx hc
  obtain ⟨r', hr', nr⟩ := near_head ny hr
  refine ⟨x, y, r', hx, hy, hr', ?_⟩
  have k0 : (w.setCell ⟨d2, f2 + 1, none⟩ (.int .i64 9)).cell? ⟨d0, f0, none⟩ = some (.slice g0 X.length c0) := (World.cell?_setCell_other w _ _ _ (by intro e; rw [← e, cl2] at cl0; cases cl0)).trans cl0
  have k1 : (w.setCell ⟨d2, f2 + 1, none⟩ (.int .i64 9)).cell? ⟨d1, f1, none⟩ = some (.slice g1 c.length c1) := (World.cell?_setCell_other w _ _ _ (by intro e; rw [← e, cl2] at cl1; cases cl1)).trans cl1
  have k2 : (w.setCell ⟨d2, f2 + 1, none⟩ (.int .i64 9)).cell? ⟨d2, f2 + 1, none⟩ = some (.int .i64 9) := World.cell?_setCell_same _ _ _ cl2
  obtain ⟨b0, o0, a0, e0, i0, _, _, hs0, _, _, q0⟩ := h.idxSlAt aTree 0 0 x x.length rfl hx rfl
  have j0 := (i0 w).symm.trans (ix0 w)
  simp only [Result.ok.injEq, Value.pointer.injEq, Option.some.injEq, Addr.mk.injEq, and_true] at j0
  obtain ⟨rfl, rfl⟩ := j0
  rw [k0] at q0
  simp only [Option.some.injEq, Value.slice.injEq] at q0
  obtain ⟨rfl, q0, rfl⟩ := q0
  rw [← q0] at hs0
  obtain ⟨b1, o1, a1, e1, i1, _, _, hs1, _, _, q1⟩ := hs0.idxSlAt aLev 0 0 y y.length rfl hy rfl
  have j1 := (i1 w).symm.trans (ix1 w)
  simp only [Result.ok.injEq, Value.pointer.injEq, Option.some.injEq, Addr.mk.injEq, and_true] at j1
  obtain ⟨rfl, rfl⟩ := j1
  rw [k1] at q1
  simp only [Option.some.injEq, Value.slice.injEq] at q1
  obtain ⟨rfl, q1, rfl⟩ := q1
  rw [← q1] at hs1
  have hly : 0 < y.length := (List.getElem?_eq_some_iff.1 hr').1
  obtain ⟨b2, o2, i2, _, _, _, _, _, q2⟩ := hs1.idxRow aRow 0 0 rfl hly
  have j2 := (i2 w).symm.trans (ix2 w)
  simp only [Result.ok.injEq, Value.pointer.injEq, Option.some.injEq, Addr.mk.injEq, and_true] at j2
  obtain ⟨rfl, rfl⟩ := j2
  rw [k2] at q2
  simp only [Option.some.injEq, Value.int.injEq, true_and] at q2
  have : y[0] = r' := (List.getElem?_eq_some_iff.1 hr').2
  rw [← this]
  exact q2.symm

theorem near_flat : ∀ {X X' : List (List Row)}, nearList (nearList nearRow) X X' → X'.flatten.length = X.flatten.length
  | [], X', h => by rw [near_nil h]
  | c :: X, X', h => by
    obtain ⟨c', X1, rfl, hc, hX⟩ := near_cons h
    rw [List.flatten_cons, List.flatten_cons, List.length_append, List.length_append, near_flat hX, hc.1]

theorem manySmall : ∀ (i : Nat) lv, treeMany[i]? = some lv → lv.length ≤ 1000 ∧ ∀ (j : Nat) c, lv[j]? = some c → c.length ≤ 1000 := by
  have h : treeMany.all (fun lv => decide (lv.length ≤ 1000) && lv.all fun c => decide (c.length ≤ 1000)) = true := by decide
  intro i lv hi
  have h1 := List.all_eq_true.1 h lv (List.mem_of_getElem? hi)
  simp only [Bool.and_eq_true, decide_eq_true_eq, List.all_eq_true] at h1
  exact ⟨h1.1, fun j c hj => h1.2 c (List.mem_of_getElem? hj)⟩

set_option maxRecDepth 100000 in
set_option maxHeartbeats 2000000 in
theorem treeBegun (w : World) : Calls Try.prog 27 #[] w (Ret w fun r _ => r = .bool true) := by
  go_enter Try.func27, Try.ntmps27
  go_wp2_with fail
  refine (lawMany _).mono ?_; rintro e w1 ⟨v1, rfl, h1, b1⟩
  have s1 := b1.size
  go_wp2_with fail
  refine (treeBuild_of _ _ _ w1 h1 treeMany_is).mono ?_; rintro e w2 ⟨_, rfl, ⟨x2, rfl, h2⟩, b2⟩
  have s2 := b2.size
  obtain ⟨ao2, cap2, rfl, _, _, _⟩ := h2.shapeAt 2 rfl
  go_wp2_with fail
  refine (treeRows_of _ _ _ w2 h2 (by decide) rowsMany_is).mono ?_; rintro e w3 ⟨_, rfl, ⟨x3, rfl, h3⟩, b3⟩
  have s3 := b3.size
  go_wp2_with fail
  refine (treeRoot_of _ _ _ w3 (h2.call b3) (by decide) rootMany_is).mono ?_; rintro e w4 ⟨_, rfl, rfl, b4⟩
  have s4 := b4.size
  have htop := topMany
  generalize topL treeMany = T at *
  go_wp2_with fail
  refine (treeBuild_of _ _ _ w4 (Sl.nil tRow w4 fun _ => False) buildNil_is).mono ?_; rintro e w5 ⟨_, rfl, ⟨x5, rfl, h5⟩, b5⟩
  have s5 := b5.size
  obtain ⟨ao5, cap5, rfl, _, _, _⟩ := h5.shapeAt 0 rfl
  go_wp2_with fail
  refine (treeRoot_of _ _ _ w5 h5 (by decide) rootNil_is).mono ?_; rintro e w6 ⟨_, rfl, rfl, b6⟩
  have s6 := b6.size
  have b26 : Below w2.heap.size w2 w6 := ((b3.trans (b4.mono s3)).trans (b5.mono (by omega))).trans (b6.mono (by omega))
  go_wp2_with fail
  refine (refOwnTree _ _ _ w6 (h2.call b26) (by decide) manySmall).mono ?_; rintro e w7 ⟨x7, rfl, h7, b7⟩
  have s7 := b7.size
  obtain ⟨ao7, cap7, rfl, _, _, _⟩ := h7.shapeAt 2 rfl
  obtain ⟨d0, f0, g0, c0, d1, f1, g1, c1, d2, f2, ix0, cl0, ix1, cl1, ix2, cl2, fr2, S2, lt2⟩ := fslice_first h7 (X := [[(0, 0), (3, 1), (6, 2), (9, 3)], [(12, 4), (15, 5), (18, 6)], [(21, 7), (24, 8), (27, 9)], [(30, 10), (33, 11)]]) (c := [(0, 0), (3, 1), (6, 2), (9, 3)]) (r := (0, 0)) rfl rfl rfl
  have h7p : Sl tRow.slice.slice w7 (fun k => w6.heap.size ≤ k) (Value.slice ao7 2 cap7) treeMany := Ty.slice_conv (E := tRow.fslice.slice) (E' := tRow.slice.slice) rfl h7 fun cs a h => Ty.slice_conv (E := tRow.fslice) (E' := tRow.slice) rfl h fun cs a h => h.1
  obtain ⟨t', h8, hn⟩ := Sl.poke (pokes_slice (pokes_slice pokes_row)) h7p cl2
  have hpk : treeErr t' = 1 := treeMany_poked hn (first_nine hn rfl rfl rfl h8 ix0 cl0 ix1 cl1 ix2 cl2)
  have hsm : (flatL t').length ≤ 2000000 := by
    obtain ⟨x, t1, rfl, hx, _⟩ := near_cons hn
    rw [flat_head rfl, near_flat hx]
    decide
  have b28 : Below w2.heap.size w2 (w7.setCell ⟨d2, f2 + 1, none⟩ (.int .i64 9)) := (b26.trans (b7.mono (by omega))).setCell (by have : w6.heap.size ≤ d2 := S2; simp; omega) _
  have h28 := h2.call b28
  have h38 := h3.call (((b4.trans (b5.mono s4)).trans (b6.mono (by omega))).trans (b7.mono (by omega)) |>.setCell (p := ⟨d2, f2 + 1, none⟩) (by have : w6.heap.size ≤ d2 := S2; simp; omega) (.int .i64 9))
  obtain ⟨p0, o0, a0, k0, i0, _, _, _, _, _, q0⟩ := h28.idxSlAt aTree 0 0 _ 4 rfl rfl rfl
  obtain ⟨p1, o1, a1, k1, i1, _, _, _, _, _, q1⟩ := h28.idxSlAt aTree 1 1 _ 1 rfl rfl rfl
  simp only [List.length_cons, List.length_nil, Nat.reduceAdd] at cl0 ix1 cl1 ix2
  have hz8 : (w7.setCell ⟨d2, f2 + 1, none⟩ (.int .i64 9)).heap.size = w7.heap.size := by simp
  clear hn h7p h7
  generalize hw8 : w7.setCell ⟨d2, f2 + 1, none⟩ (.int .i64 9) = w8 at *
  go_wp2_with fail
  refine (lawMany _).mono ?_; rintro e w9 ⟨v9, rfl, h9, b9⟩
  have s9 := b9.size
  go_wp2_with fail
  refine (refSameRows_of x3 v9 _ _ _ _ w9 (h38.call b9) h9 (c := true) (by decide)).mono ?_; rintro e w10 ⟨rfl, d10⟩
  have b10 := d10.below
  have s10 := b10.size
  go_wp2_with fail
  refine (treeCheck_of _ _ _ w10 ((h28.call b9).call b10) (by decide) (c := 0) (by decide)).mono ?_; rintro e w11 ⟨_, rfl, rfl, b11⟩
  have s11 := b11.size
  go_wp2_with fail
  refine (treeCheck_of _ _ _ w11 (((h8.call b9).call b10).call b11) hsm hpk).mono ?_; rintro e w12 ⟨_, rfl, rfl, b12⟩
  go_wp2
  go_ret
  exact ⟨_, rfl, rfl, ((((((b1.trans (b2.mono s1)).trans (b28.mono (by omega))).trans (b9.mono (by omega))).trans (b10.mono (by omega))).trans (b11.mono (by omega))).trans (b12.mono (by omega)))⟩

end Go.Pch
