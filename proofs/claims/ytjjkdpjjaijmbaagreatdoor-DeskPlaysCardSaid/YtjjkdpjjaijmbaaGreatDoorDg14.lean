/- The walks of slices.Delete and slices.Insert at rows, on a slice of the call's own. The walk of slices.Insert at rows, on a slice of the call's own. -/
import Derived.Test.YtjjkdpjjaijmbaaGreatDoorDg13
import Derived.Test.YtjjkdpjjaijmbaaGreatDoorDg5
import Derived.Lib.Overlaps
import Derived.Laws.Externs
section
namespace Go.Pch
open Go.RowKit Go.Proofs
theorem zeroRow : ∃ z, (Tryz.prog.info? 86).map (·.zero) = some (some z) ∧ ∀ u ∈ z.cells.toList, u.oneCell' = true :=
  ⟨.agg #[.int .i64 0, .int .i64 0], by kernel_rfl, by intro u hu; simp [Value.cells] at hu; subst hu; rfl⟩
theorem take_all_flat {cur : List Value} {xs : List (List Value)} {n s : Nat} (h : cur.take (n * s) = xs.flatten) (hx : ∀ c ∈ xs, c.length = s) (i : Nat) (hi : i ≤ xs.length) : cur.take (i * s) = (xs.take i).flatten ∧ (xs.length = n → ∀ j v, (xs.drop i).flatten[j]? = some v → cur[i * s + j]? = some v) := by
  have hl : (xs.take i).flatten.length = i * s := by
    rw [flatten_len (sz := s) (xs.take i) (fun c hc => hx c (List.mem_of_mem_take hc)), List.length_take, Nat.min_eq_left hi]
  have hsplit : xs.flatten = (xs.take i).flatten ++ (xs.drop i).flatten := by rw [← List.flatten_append, List.take_append_drop]
  have hle : i * s ≤ n * s := by
    have h1 := congrArg List.length h
    rw [hsplit, List.length_append, hl, List.length_take] at h1
    omega
  refine ⟨?_, fun hn j v hj => ?_⟩
  · have := congrArg (List.take (i * s)) h
    rw [List.take_take, Nat.min_eq_left hle, hsplit, ← hl, List.take_left] at this
    rw [← hl]
    exact this
  · have hj' := (List.getElem?_eq_some_iff.1 hj).1
    have h1 : xs.flatten[i * s + j]? = some v := by rw [hsplit, List.getElem?_append_right (by omega), hl, Nat.add_sub_cancel_left]; exact hj
    rw [← h] at h1
    rw [List.getElem?_take] at h1
    split at h1
    · exact h1
    · cases h1
set_option maxRecDepth 100000 in
set_option maxHeartbeats 1000000 in
theorem deleteRow (v : Value) (l : List Row) (i B : Nat) (C : Blk) (w : World) (h : Own tRow 86 w B C v l) (hi : i < l.length) (hl : l.length ≤ 1000000) :
    Calls Tryz.prog 185 #[v, .int .i64 i, .int .i64 ((i : Int) + 1)] w (fun e w' => ∃ v', e = .returned v' ∧ Own tRow 86 w' B C v' (l.take i ++ l.drop (i + 1)) ∧ w.grownBy w' v.ownBlock ∧ v'.ownBlock = v.ownBlock) := by
  obtain ⟨g, cap, cur, xs, rfl, hBg, hgs, hg, hlc, hcm, hcl, hcx, hE⟩ := h.cells (by omega)
  have hxl : xs.length = l.length := hE.1
  have hxs := hE.lens
  unfold maxLen at hcm
  have hsz : tRow.size = 2 := rfl
  rw [hsz] at hcx hcl hxs
  obtain ⟨c0, c1⟩ := take_all_flat hcx hxs i (by omega)
  obtain ⟨_, c3⟩ := take_all_flat hcx hxs (i + 1) (by omega)
  have hnl : (xs.drop (i + 1)).flatten.length = (l.length - (i + 1)) * 2 := by rw [flatten_len (sz := 2) _ (fun c hc => hxs c (List.mem_of_mem_drop hc)), List.length_drop, hxl]
  have hone : ∀ u ∈ (xs.drop (i + 1)).flatten, u.oneCell' = true := (hE.drop (i + 1)).ones
  obtain ⟨ad, had, hsrc⟩ := cut_src (cap := cap) (lo := i + 1) (s := 2) hg (c3 hxl) (fun e => List.eq_nil_of_length_eq_zero (by omega))
  have hsrc' : ∀ j v, (xs.drop (i + 1)).flatten[j]? = some v → w.drew.cell? (ad.add j) = some v := hsrc
  obtain ⟨u3, q3⟩ := run_cut3 aRow (some ⟨g, 0, none⟩) l.length cap i (i + 1) l.length i ((i : Int) + 1) l.length rfl (by omega) rfl (by omega) (by omega) hlc
  have qT := run_cutTo aRow (some ⟨g, 0, none⟩) l.length cap i (i : Int) rfl (by omega)
  rw [cutAddr_zero] at qT
  have qF := run_cutFrom aRow (some ⟨g, 0, none⟩) l.length cap (i + 1) ((i : Int) + 1) (by omega) (by omega)
  rw [hsz, had] at qF
  obtain ⟨m, hm⟩ : ∃ m, l.length = m + 1 := ⟨l.length - 1, by omega⟩
  have hap := fun ty => run_append_seg (w := w.drew) (c := cap - (i + 1)) aRow (i := i) (cap := cap) (m := l.length - (i + 1)) hg hnl hsrc' (by omega) (by rw [hsz, hnl, hcl]; omega) hone ty
  rw [hsz, show i + (l.length - (i + 1)) = m by omega] at hap
  have hcur1 := seg_len (cur := cur) (cs := (xs.drop (i + 1)).flatten) (o := i * 2) (by rw [hnl, hcl]; omega)
  have hsg : (seg cur (i * 2) (xs.drop (i + 1)).flatten).take (m * 2) = (xs.take i ++ xs.drop (i + 1)).flatten := by
    rw [seg, c0, List.flatten_append]
    have e : ((xs.take i).flatten ++ (xs.drop (i + 1)).flatten).length = m * 2 := by
      rw [List.length_append, hnl, flatten_len (sz := 2) _ (fun c hc => hxs c (List.mem_of_mem_take hc)), List.length_take, Nat.min_eq_left (by omega)]
      omega
    rw [← e, List.take_left]
  generalize seg cur (i * 2) (xs.drop (i + 1)).flatten = cur1 at hap hcur1 hsg
  rw [hcl] at hcur1
  have hg1 : (w.drew.setRow g cur1.toArray).heap[g]? = some (.cells cur1.toArray 86) := setRow_heap w.drew g _ _ _ _ hg
  obtain ⟨zs, hzl, hzr⟩ := run_clear_seg (o := m * 2) (n := 1) (c := cap - m) aRow hg1 (by omega) (by rw [hsz, hcur1]; omega) zeroRow
  rw [hsz] at hzl
  have hsl := seg_len (cur := cur1) (cs := zs) (o := m * 2) (by omega)
  have hst : (seg cur1 (m * 2) zs).take (m * 2) = (xs.take i ++ xs.drop (i + 1)).flatten := by
    rw [← hsg, seg_take zs (by omega)]
  generalize seg cur1 (m * 2) zs = cur2 at hzr hsl hst
  have q6 := run_cut aRow (some ⟨g, 0, none⟩) m cap m l.length (m : Int) (l.length : Int) rfl rfl (by omega) hlc
  rw [cutAddr_on (by omega), show l.length - m = 1 by omega, hsz, Nat.zero_add] at q6
  have hw1 : IntKind.i64.wrap ((i : Int) + 1) = (i : Int) + 1 := by rw [IntKind.wrap_i64]; omega
  have hne : ((i : Int) == (i : Int) + 1) = false := by simp; omega
  obtain ⟨W1, hW1⟩ : ∃ W1, W1 = w.drew.setRow g cur1.toArray := ⟨_, rfl⟩
  rw [← hW1] at hap hzr
  have FIN : Hid (Own tRow 86 (W1.setRow g cur2.toArray) B C (.slice (some ⟨g, 0, none⟩) m cap) (l.take i ++ l.drop (i + 1)) ∧ w.grownBy (W1.setRow g cur2.toArray) (some g)) := keepBack (by
    have hgr : w.grownBy (W1.setRow g cur2.toArray) (some g) := by
      rw [hW1, setRow_setRow]
      exact ⟨rfl, rfl, rfl, by rw [setRow_size]; exact Nat.le_refl _, fun k _ hk => setRow_other w.drew g k _ (fun e => hk (by rw [e]))⟩
    refine ⟨?_, hgr⟩
    have hll : (l.take i ++ l.drop (i + 1)).length = m := by simp; omega
    have hE2 : Each tRow (W1.setRow g cur2.toArray) (fun k => C k ∧ k ≠ g) (xs.take i ++ xs.drop (i + 1)) (l.take i ++ l.drop (i + 1)) :=
      ((hE.take i).app (hE.drop (i + 1))).keep fun k hk hlt => hgr.block k hlt (fun e => hk.2 (Option.some.inj e))
    have := Own.of_cells (B := B) (C := C) (cap := cap) hBg (setRow_heap W1 g _ _ _ _ (by rw [hW1]; exact hg1)) (by omega) (by unfold maxLen; omega) (by rw [hsl, hcur1, hsz]) (by rw [hll, hsz]; exact hst) hE2
    rwa [hll] at this)
  have hmi : ((m : Nat) : Int) ≤ (l.length : Int) := by omega
  clear hW1 hg1 hst hsl hsg hcur1 hsrc hsrc' hone hnl c0 c3 c1 hE hxs hcx hxl hg hcl had h hzl hm
  go_enter Tryz.func185, Tryz.ntmps185
  go_wp2
  go_region_law (refine step_append_is rfl (.tmp 22) (.tmp 25) 56 56 rfl _ _ (by simp [Act.eval, Act.put]) (by simp [Act.eval, Act.put]) (hap _) ?_)
  go_wp2_with (at_builtin; refine wpList_clear_is rfl _ 56 rfl _ rfl (hzr _) ?_)
  go_ret
  exact ⟨_, rfl, FIN.out.1, FIN.out.2, rfl⟩
end Go.Pch
end

section
namespace Go.Pch
open Go.RowKit Go.Proofs
theorem sizeRow : ∀ w, (Go.sizeOf 86).run Tryz.prog w = .ok 2 w := fun w => by
  obtain ⟨q, z, i1, i2, i3, i4, i5⟩ := aRow.info
  simp [Go.sizeOf, typeInfo, i1, i3]; rfl
theorem frozen_plain' {w : World} {b o : Nat} {c : Array Value} {t : TypeId} (h : w.heap[b]? = some (.cells c t)) : w.frozen? ⟨b, o, none⟩ = false := by
  simp [World.frozen?, h]
theorem insertEnd (v u : Value) (l : List Row) (r : Row) (B : Nat) (C : Blk) (w : World) (h : Own tRow 86 w B C v l) (hl : l.length ≤ 1000000) (hB : B ≤ w.heap.size) (hu : ∃ vb, u = .slice (some ⟨vb, 0, none⟩) 1 1 ∧ Src tRow w (fun _ => False) (some ⟨vb, 0, none⟩) [r]) :
    Calls Tryz.prog 186 #[v, .int .i64 l.length, u] w (fun e w' => ∃ v', e = .returned v' ∧ Own tRow 86 w' B C v' (l ++ [r]) ∧ w.grownBy w' v.ownBlock) := by
  obtain ⟨vb, rfl, hsrc⟩ := hu
  have hs := h.sl (D := fun _ => True) (fun _ _ => trivial) (fun _ _ => trivial)
  obtain ⟨ao, cap, rfl, hcap, hmax⟩ := h.shape
  unfold maxLen at hmax
  obtain ⟨av, cv, _, qF, _, _⟩ := hs.cutFrom aRow (l.length : Int) l.length rfl (Nat.le_refl _)
  have HO := keepBack h
  clear h hs
  go_enter Tryz.func186, Tryz.ntmps186
  go_wp2_with (at_builtin; refine wpList_grow rfl (.tmp 23) (.tmp 24) rfl aRow rfl HO.out rfl rfl hsrc (by simp) (fun _ h => h.elim) (by simp; omega) hB ?_)
  intro v2 w2 ho2 hg2
  go_wp2
  go_ret
  exact ⟨_, rfl, ho2, hg2⟩
theorem insertGrow (l : List Row) (r : Row) (i g cap B : Nat) (C : Blk) (w : World) (vb : Nat) (h : Own tRow 86 w B C (.slice (some ⟨g, 0, none⟩) l.length cap) l) (hi : i < l.length) (hl : l.length ≤ 1000000) (hB : B ≤ w.heap.size) (hc : cap < l.length + 1)
    (ok : i64ok r.1 ∧ i64ok r.2) (hvb : vb < w.heap.size) (hv0 : w.cell? ⟨vb, 0, none⟩ = some (.int .i64 r.1)) (hv1 : w.cell? ⟨vb, 1, none⟩ = some (.int .i64 r.2)) :
    Calls Tryz.prog 186 #[.slice (some ⟨g, 0, none⟩) l.length cap, .int .i64 i, .slice (some ⟨vb, 0, none⟩) 1 1] w (fun e w' => ∃ v', e = .returned v' ∧ Own tRow 86 w' B C v' (l.take i ++ r :: l.drop i) ∧ Below w.heap.size w w') := by
  obtain ⟨g', cap', cur, xs, hv, hBg, hgs, hg, hlc, hcm, hcl, hcx, hE⟩ := h.cells (by omega)
  simp only [Value.slice.injEq, Option.some.injEq, Addr.mk.injEq, and_true, true_and] at hv
  obtain ⟨rfl, rfl⟩ := hv
  have hxl : xs.length = l.length := hE.1
  have hxs := hE.lens
  unfold maxLen at hcm
  have hsz : tRow.size = 2 := rfl
  rw [hsz] at hcx hcl hxs
  obtain ⟨c0, c1⟩ := take_all_flat hcx hxs i (by omega)
  have hnl : (xs.drop i).flatten.length = (l.length - i) * 2 := by rw [flatten_len (sz := 2) _ (fun c hc => hxs c (List.mem_of_mem_drop hc)), List.length_drop, hxl]
  have hal : (xs.take i).flatten.length = i * 2 := by rw [flatten_len (sz := 2) _ (fun c hc => hxs c (List.mem_of_mem_take hc)), List.length_take, hxl, Nat.min_eq_left (by omega)]
  have hone : ∀ u ∈ (xs.drop i).flatten, u.oneCell' = true := (hE.drop i).ones
  obtain ⟨q, z, i1, i2, i3, i4, i5⟩ := aRow.info
  rw [hsz] at i3 i4
  -- the new row
  obtain ⟨k, hk⟩ : ∃ k, l.length + 1 - i = k := ⟨_, rfl⟩
  have hkk : ((l.length : Int) + 1 - (i : Int)) = (k : Int) := by omega
  have hik : i + k = l.length + 1 := by omega
  have hold : (Builtin.firstCells q.size i (.slice (some ⟨g, 0, none⟩) i cap)).run Tryz.prog w.drew = .ok (xs.take i).flatten.toArray w.drew := by
    rw [i3]
    refine run_firstCells_some w.drew 2 i ⟨g, 0, none⟩ i cap _ hal fun j v hj => ?_
    rw [Addr.add_lit, Nat.zero_add]
    show w.cell? _ = _
    rw [World.cell?, hg]
    have : cur.take (i * 2) = (xs.take i).flatten := c0
    rw [← this, List.getElem?_take] at hj
    split at hj
    · simpa using hj
    · cases hj
  have hrz := fun ty => Lib.run_append_grow_zeros (P := Tryz.prog) w 56 3 ty 86 q z .i64 .i64 Tryz.underlying56 Tryz.underlying3 i1 i2 (some ⟨g, 0, none⟩) i cap _ hold k (by omega) (by omega) (by omega) (by omega)
    (by have : k * q.bytes ≤ k * 64 := Nat.mul_le_mul_left _ i5
        omega) (growslice_fits (by omega) (by have : (i + k) * q.bytes ≤ (i + k) * 64 := Nat.mul_le_mul_left _ i5
                                              omega))
  rw [hik] at hrz
  have hG := grownCap_ge w (l.length + 1) cap 86
  have hG63 := grownCap_le_maxLen w (l.length + 1) cap 86 (by unfold maxLen; omega)
  generalize grownCap w (l.length + 1) cap 86 = G at *
  obtain ⟨row0, hrow0⟩ : ∃ row0 : List Value, row0 = ((xs.take i).flatten.toArray ++ Builtin.zeroCells z.cells k ++ Builtin.zeroCells z.cells (G - (l.length + 1))).toList := ⟨_, rfl⟩
  have hr0l : row0.length = G * 2 := by
    rw [hrow0]
    simp [Builtin.zeroCells, i4, hal, ← Nat.add_mul]
    omega
  have hr0t : row0.take (i * 2) = (xs.take i).flatten := by
    rw [hrow0]
    simp only [Array.toList_append, List.append_assoc]
    rw [← hal, List.take_left]
  rw [show (xs.take i).flatten.toArray ++ Builtin.zeroCells z.cells k ++ Builtin.zeroCells z.cells (G - (l.length + 1)) = row0.toArray by rw [hrow0]] at hrz
  obtain ⟨W1, hW1⟩ : ∃ W1, W1 = w.drew.alloc (.cells row0.toArray 86) := ⟨_, rfl⟩
  have hg1 : W1.heap[w.heap.size]? = some (.cells row0.toArray 86) := by rw [hW1]; exact heap_alloc_new w.drew _
  have hb1 : Below w.heap.size w W1 := by rw [hW1]; exact ((Below.refl _ _).drew).alloc (Nat.le_refl _) _
  -- the element
  have hcp1 := fun ty dc => run_copy_seg (w := W1) (cs := [.int .i64 r.1, .int .i64 r.2]) (g := w.heap.size) (o := i * 2) (dLen := l.length + 1 - i) (dCap := dc) (a := ⟨vb, 0, none⟩) (sLen := 1) (sCap := 1) (n := 1) aRow hg1 (by simp [Nat.min_def]; omega) rfl
    (by intro j v hj
        rw [Addr.add_lit, Nat.zero_add, (hb1.cell (p := ⟨vb, j, none⟩) hvb)]
        match j, hj with
        | 0, hj => simp at hj; subst hj; exact hv0
        | 1, hj => simp at hj; subst hj; exact hv1) (by simp; omega) (by intro v hv; simp at hv; rcases hv with rfl | rfl <;> rfl) ty
  have hs1 := seg_len (cur := row0) (cs := [.int .i64 r.1, .int .i64 r.2]) (o := i * 2) (by simp; omega)
  have ht1 : (seg row0 (i * 2) [.int .i64 r.1, .int .i64 r.2]).take ((i + 1) * 2) = (xs.take i).flatten ++ [.int .i64 r.1, .int .i64 r.2] := by
    rw [seg, hr0t]
    have e : ((xs.take i).flatten ++ [Value.int .i64 r.1, .int .i64 r.2]).length = (i + 1) * 2 := by simp [hal]; omega
    rw [← e, List.take_left]
  generalize seg row0 (i * 2) [.int .i64 r.1, .int .i64 r.2] = row1 at *
  obtain ⟨W2, hW2⟩ : ∃ W2, W2 = W1.setRow w.heap.size row1.toArray := ⟨_, rfl⟩
  have hg2 : W2.heap[w.heap.size]? = some (.cells row1.toArray 86) := by rw [hW2]; exact setRow_heap W1 _ _ _ _ _ hg1
  have hb2 : Below w.heap.size w W2 := by rw [hW2]; exact below_setRow hb1 (Nat.le_refl _) _
  rw [← hW1] at hrz
  rw [← hW2] at hcp1
  -- what stood from i on
  have hcp2 := fun ty dc sc => run_copy_seg (w := W2.drew) (cs := (xs.drop i).flatten) (g := w.heap.size) (o := (i + 1) * 2) (dLen := l.length - i) (dCap := dc) (a := ⟨g, i * 2, none⟩) (sLen := l.length - i) (sCap := sc) (n := l.length - i) aRow hg2 (by simp only [Nat.min_def]; split <;> omega) hnl
    (by intro j v hj
        have hold2 : W2.heap[g]? = some (.cells cur.toArray 86) := (hb2.block g hgs).trans hg
        rw [Addr.add_lit, World.cell?]
        show (match W2.heap[g]? with | some (.cells c _ _) => c[i * 2 + j]? | _ => none) = some v
        rw [hold2]
        simpa using c1 hxl j v hj) (by rw [hnl]; omega) hone ty
  have hs2 := seg_len (cur := row1) (cs := (xs.drop i).flatten) (o := (i + 1) * 2) (by rw [hnl]; omega)
  have ht2 : (seg row1 ((i + 1) * 2) (xs.drop i).flatten).take ((l.length + 1) * 2) = (xs.take i ++ [.int .i64 r.1, .int .i64 r.2] :: xs.drop i).flatten := by
    rw [seg, ht1]
    have e : ((xs.take i).flatten ++ [Value.int .i64 r.1, .int .i64 r.2] ++ (xs.drop i).flatten).length = (l.length + 1) * 2 := by simp only [List.length_append, hal, hnl]; simp; omega
    rw [← e, List.take_left]
    simp
  generalize seg row1 ((i + 1) * 2) (xs.drop i).flatten = row2 at *
  obtain ⟨W3, hW3⟩ : ∃ W3, W3 = W2.drew.setRow w.heap.size row2.toArray := ⟨_, rfl⟩
  have hg3 : W3.heap[w.heap.size]? = some (.cells row2.toArray 86) := by rw [hW3]; exact setRow_heap W2.drew _ _ _ _ _ hg2
  have hb3 : Below w.heap.size w W3 := by rw [hW3]; exact below_setRow hb2.drew (Nat.le_refl _) _
  rw [← hW3] at hcp2
  have FIN : Hid (Own tRow 86 W3 B C (.slice (some ⟨w.heap.size, 0, none⟩) (l.length + 1) G) (l.take i ++ r :: l.drop i)) := keepBack (by
    have hll : (l.take i ++ r :: l.drop i).length = l.length + 1 := by simp; omega
    have hE1 : Each tRow w (fun k => C k ∧ k ≠ w.heap.size) xs l := (hE.mono (C := fun k => (C k ∧ k ≠ g) ∧ k < w.heap.size) fun k hk hlt => ⟨hk, hlt⟩).mono fun k hk hlt => ⟨hk.1.1, by omega⟩
    have hE2 : Each tRow W3 (fun k => C k ∧ k ≠ w.heap.size) (xs.take i ++ [.int .i64 r.1, .int .i64 r.2] :: xs.drop i) (l.take i ++ r :: l.drop i) :=
      ((hE1.take i).app ((Each.one _ _ (show tRow.rd w _ [.int .i64 r.1, .int .i64 r.2] r from ⟨rfl, ok⟩)).app (hE1.drop i))).keep fun k hk hlt => hb3.block k hlt
    have := Own.of_cells (B := B) (C := C) (cap := G) hB hg3 (by omega) hG63 (by rw [hs2, hs1, hr0l, hsz]) (by rw [hll, hsz]; exact ht2) hE2
    rwa [hll] at this)
  have q1 := run_cutFrom aRow (some ⟨g, 0, none⟩) l.length cap i (i : Int) rfl (by omega)
  rw [cutAddr_on (by omega), hsz, Nat.zero_add] at q1
  have q2 := run_cutTo aRow (some ⟨g, 0, none⟩) l.length cap i (i : Int) rfl (by omega)
  rw [cutAddr_zero] at q2
  have q3 := run_cutFrom aRow (some ⟨w.heap.size, 0, none⟩) (l.length + 1) G i (i : Int) rfl (by omega)
  rw [cutAddr_on (by omega), hsz, Nat.zero_add] at q3
  have q4 := run_cutFrom aRow (some ⟨w.heap.size, 0, none⟩) (l.length + 1) G (i + 1) ((i : Int) + 1) (by omega) (by omega)
  rw [cutAddr_on (by omega), hsz, Nat.zero_add] at q4
  have hz2 : ((i : Int) == (l.length : Int)) = false := by simp; omega
  have hz3 : (cap : Int) < (l.length : Int) + 1 := by omega
  have HB3 := keepBack hb3
  unfold maxLen at hG63
  clear hW3 hg3 hb3 hs2 ht2 hW2 hg2 hb2 hW1 hg1 hb1 hs1 ht1 hr0t hr0l hrow0 hold hone hnl hal c0 c1 hE hxs hcx hxl hg hcl h hk hik i1 i2 i3 i4 i5 ok hv0 hv1 hvb
  go_enter Tryz.func186, Tryz.ntmps186
  go_wp2_with (first
    | (at_builtin; refine Lib.wpList_append_run _ rfl _ _ _ _ rfl _ _ rfl rfl _ _ (hrz _) ?_)
    | (at_builtin; refine wpList_copy_is rfl _ _ 56 56 rfl _ _ rfl rfl (hcp1 _ _) ?_))
  have hw1 : IntKind.i64.wrap ((i : Int) + 1) = (i : Int) + 1 := by rw [IntKind.wrap_i64]; omega
  go_region_law (refine step_copy_is rfl _ _ 56 56 rfl _ _ (by simp [Act.eval, Act.put]) (by simp [Act.eval, Act.put]) (hcp2 _ _ _) ?_)
  go_wp2
  go_ret
  exact ⟨_, rfl, FIN.out, HB3.out⟩
theorem insertRoom (l : List Row) (r : Row) (i g cap B : Nat) (C : Blk) (w : World) (vb : Nat) (h : Own tRow 86 w B C (.slice (some ⟨g, 0, none⟩) l.length cap) l) (hi : i < l.length) (hl : l.length ≤ 1000000) (hc : l.length + 1 ≤ cap)
    (ok : i64ok r.1 ∧ i64ok r.2) (hne : vb ≠ g) (hv : w.heap[vb]? = some (.cells #[.int .i64 r.1, .int .i64 r.2] 86)) :
    Calls Tryz.prog 186 #[.slice (some ⟨g, 0, none⟩) l.length cap, .int .i64 i, .slice (some ⟨vb, 0, none⟩) 1 1] w (fun e w' => ∃ v', e = .returned v' ∧ Own tRow 86 w' B C v' (l.take i ++ r :: l.drop i) ∧ w.grownBy w' (some g)) := by
  obtain ⟨g', cap', cur, xs, hv', hBg, hgs, hg, hlc, hcm, hcl, hcx, hE⟩ := h.cells (by omega)
  simp only [Value.slice.injEq, Option.some.injEq, Addr.mk.injEq, and_true, true_and] at hv'
  obtain ⟨rfl, rfl⟩ := hv'
  have hxl : xs.length = l.length := hE.1
  have hxs := hE.lens
  unfold maxLen at hcm
  have hsz : tRow.size = 2 := rfl
  rw [hsz] at hcx hcl hxs
  obtain ⟨c0, c1⟩ := take_all_flat hcx hxs i (by omega)
  have hnl : (xs.drop i).flatten.length = (l.length - i) * 2 := by rw [flatten_len (sz := 2) _ (fun c hc => hxs c (List.mem_of_mem_drop hc)), List.length_drop, hxl]
  have hal : (xs.take i).flatten.length = i * 2 := by rw [flatten_len (sz := 2) _ (fun c hc => hxs c (List.mem_of_mem_take hc)), List.length_take, hxl, Nat.min_eq_left (by omega)]
  have hone : ∀ u ∈ (xs.drop i).flatten, u.oneCell' = true := (hE.drop i).ones
  -- what stood from i on
  have hcp1 := fun ty dc sc => run_copy_seg (w := w.drew) (cs := (xs.drop i).flatten) (g := g) (o := (i + 1) * 2) (dLen := l.length - i) (dCap := dc) (a := ⟨g, i * 2, none⟩) (sLen := l.length + 1 - i) (sCap := sc) (n := l.length - i) aRow hg (by simp only [Nat.min_def]; split <;> omega) hnl
    (by intro j v hj
        rw [Addr.add_lit]
        show w.cell? _ = _
        rw [World.cell?, hg]
        simpa using c1 hxl j v hj) (by rw [hnl]; omega) hone ty
  have hs1 := seg_len (cur := cur) (cs := (xs.drop i).flatten) (o := (i + 1) * 2) (by rw [hnl]; omega)
  have hd1 : (seg cur ((i + 1) * 2) (xs.drop i).flatten).take (i * 2) = (xs.take i).flatten ∧ ((seg cur ((i + 1) * 2) (xs.drop i).flatten).drop ((i + 1) * 2)).take ((l.length - i) * 2) = (xs.drop i).flatten := by
    constructor
    · rw [← c0]
      have := seg_take (cur := cur) (o := (i + 1) * 2) (xs.drop i).flatten (by omega)
      have h2 := congrArg (List.take (i * 2)) this
      rw [List.take_take, List.take_take, Nat.min_eq_left (by omega)] at h2
      exact h2
    · rw [seg]
      have e : (cur.take ((i + 1) * 2)).length = (i + 1) * 2 := by rw [List.length_take]; omega
      rw [List.append_assoc, List.drop_append_of_le_length (by omega), List.drop_eq_nil_of_le (by omega), List.nil_append, ← hnl, List.take_left]
  generalize seg cur ((i + 1) * 2) (xs.drop i).flatten = row1 at *
  obtain ⟨W1, hW1⟩ : ∃ W1, W1 = w.drew.setRow g row1.toArray := ⟨_, rfl⟩
  have hg1 : W1.heap[g]? = some (.cells row1.toArray 86) := by rw [hW1]; exact setRow_heap w.drew _ _ _ _ _ hg
  have hv1 : W1.heap[vb]? = some (.cells #[.int .i64 r.1, .int .i64 r.2] 86) := by rw [hW1]; exact (setRow_other w.drew g vb _ hne).trans hv
  rw [← hW1] at hcp1
  have hcp2 := fun ty dc => run_copy_seg (w := W1) (cs := [.int .i64 r.1, .int .i64 r.2]) (g := g) (o := i * 2) (dLen := l.length + 1 - i) (dCap := dc) (a := ⟨vb, 0, none⟩) (sLen := 1) (sCap := 1) (n := 1) aRow hg1 (by simp [Nat.min_def]; omega) rfl
    (by intro j v hj
        rw [Addr.add_lit, Nat.zero_add, World.cell?, hv1]
        simpa using hj) (by simp; omega) (by intro v hv; simp at hv; rcases hv with rfl | rfl <;> rfl) ty
  have hs2 := seg_len (cur := row1) (cs := [.int .i64 r.1, .int .i64 r.2]) (o := i * 2) (by simp; omega)
  have ht2 : (seg row1 (i * 2) [.int .i64 r.1, .int .i64 r.2]).take ((l.length + 1) * 2) = (xs.take i ++ [.int .i64 r.1, .int .i64 r.2] :: xs.drop i).flatten := by
    rw [seg, hd1.1]
    have e : ((xs.take i).flatten ++ [Value.int .i64 r.1, .int .i64 r.2]).length = (i + 1) * 2 := by simp [hal]; omega
    rw [List.take_append, List.take_of_length_le (by omega), e, List.length_cons, List.length_cons, List.length_nil, show i * 2 + (0 + 1 + 1) = (i + 1) * 2 by omega, show (l.length + 1) * 2 - (i + 1) * 2 = (l.length - i) * 2 by omega, hd1.2]
    simp
  generalize seg row1 (i * 2) [.int .i64 r.1, .int .i64 r.2] = row2 at *
  obtain ⟨W2, hW2⟩ : ∃ W2, W2 = W1.setRow g row2.toArray := ⟨_, rfl⟩
  have hg2 : W2.heap[g]? = some (.cells row2.toArray 86) := by rw [hW2]; exact setRow_heap W1 _ _ _ _ _ hg1
  have hgr : w.grownBy W2 (some g) := by
    rw [hW2, hW1, setRow_setRow]
    exact ⟨rfl, rfl, rfl, by rw [setRow_size]; exact Nat.le_refl _, fun k _ hk => setRow_other w.drew g k _ (fun e => hk (by rw [e]))⟩
  rw [← hW2] at hcp2
  have FIN : Hid (Own tRow 86 W2 B C (.slice (some ⟨g, 0, none⟩) (l.length + 1) cap) (l.take i ++ r :: l.drop i) ∧ w.grownBy W2 (some g)) := keepBack (by
    refine ⟨?_, hgr⟩
    have hll : (l.take i ++ r :: l.drop i).length = l.length + 1 := by simp; omega
    have hE2 : Each tRow W2 (fun k => C k ∧ k ≠ g) (xs.take i ++ [.int .i64 r.1, .int .i64 r.2] :: xs.drop i) (l.take i ++ r :: l.drop i) :=
      ((hE.take i).app ((Each.one _ _ (show tRow.rd w _ [.int .i64 r.1, .int .i64 r.2] r from ⟨rfl, ok⟩)).app (hE.drop i))).keep fun k hk hlt => hgr.block k hlt (fun e => hk.2 (Option.some.inj e))
    have := Own.of_cells (B := B) (C := C) (cap := cap) hBg hg2 (by omega) (by unfold maxLen; omega) (by rw [hs2, hs1, hcl, hsz]) (by rw [hll, hsz]; exact ht2) hE2
    rwa [hll] at this)
  have hov : ∀ lb cb, (callFunc 196 #[.slice (some ⟨vb, 0, none⟩) 1 1, .slice (some ⟨g, (i + 1) * 2, none⟩) lb cb]).run Tryz.prog w = .ok (.value (.bool false)) w := fun lb cb => by
    rw [run_callFunc_extern Tryz.func196 (by kernel_rfl) (by kernel_rfl) (by kernel_rfl) (e := Extern.SlicesOverlaps.overlaps #[56, 56] #[4]) (by kernel_rfl),
      Lib.run_overlaps_apart w 56 4 86 Tryz.underlying56 2 sizeRow ⟨vb, 0, none⟩ ⟨g, (i + 1) * 2, none⟩ 1 1 lb cb hne 86 86 2 cur.length (by simp [World.shape?, hv]) (by simp [World.shape?, hg]) (by omega) (frozen_plain' hv) (frozen_plain' hv)]
    rfl
  have q0 := run_cutFrom aRow (some ⟨g, 0, none⟩) l.length cap i (i : Int) rfl (by omega)
  rw [cutAddr_on (by omega), hsz, Nat.zero_add] at q0
  have q1 := run_cutTo aRow (some ⟨g, 0, none⟩) l.length cap (l.length + 1) ((l.length : Int) + 1) (by omega) hc
  rw [cutAddr_zero] at q1
  have q3 := run_cutFrom aRow (some ⟨g, 0, none⟩) (l.length + 1) cap i (i : Int) rfl (by omega)
  rw [cutAddr_on (by omega), hsz, Nat.zero_add] at q3
  have q4 := run_cutFrom aRow (some ⟨g, 0, none⟩) (l.length + 1) cap (i + 1) ((i : Int) + 1) (by omega) (by omega)
  rw [cutAddr_on (by omega), hsz, Nat.zero_add] at q4
  have hz2 : ((i : Int) == (l.length : Int)) = false := by simp; omega
  have hz3 : ¬ (cap : Int) < (l.length : Int) + 1 := by omega
  have hz4 : (l.length : Int) + 1 ≤ (cap : Int) := by omega
  clear hgr hW2 hg2 hs2 ht2 hd1 hs1 hW1 hg1 hv1 hone hnl hal c0 c1 hE hxs hcx hxl hg hcl h ok hv hne
  go_enter Tryz.func186, Tryz.ntmps186
  go_wp2_with (simp only [hov])
  have hw1 : IntKind.i64.wrap ((i : Int) + 1) = (i : Int) + 1 := by rw [IntKind.wrap_i64]; omega
  go_region_law (refine step_copy_is rfl _ _ 56 56 rfl _ _ (by simp [Act.eval, Act.put]) (by simp [Act.eval, Act.put]) (hcp1 _ _ _) ?_)
  go_wp2_with (at_builtin; refine wpList_copy_is rfl _ _ 56 56 rfl _ _ rfl rfl (hcp2 _ _) ?_)
  go_ret
  exact ⟨_, rfl, FIN.out⟩
end Go.Pch
end
