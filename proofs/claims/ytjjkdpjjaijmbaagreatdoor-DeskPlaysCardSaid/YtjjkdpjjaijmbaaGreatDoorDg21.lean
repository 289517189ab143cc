/- The walk of slices.Insert at heads, on a slice of the call's own. slices.Insert and slices.Delete at a desk's heads; what the desk reads as behind it. A map of ints that the call has made: what it says, read, written. -/
import Derived.Test.YtjjkdpjjaijmbaaGreatDoorDg14
import Derived.Test.YtjjkdpjjaijmbaaGreatDoorDg20
import Derived.Lib.Overlaps
import Derived.Laws.Externs
import Derived.Deep.RegionLaw
import Derived.Test.YtjjkdpjjaijmbaaGreatDoorDg2
import Derived.Maps.OwnSet
import Derived.Maps.Views
section
namespace Go.Pch
open Go.RowKit Go.Proofs
theorem sizeHead : ∀ w, (Go.sizeOf 61).run Tryz.prog w = .ok 2 w := fun w => by
  obtain ⟨q, z, i1, i2, i3, i4, i5⟩ := aHead.info
  simp [Go.sizeOf, typeInfo, i1, i3]; rfl
theorem insertEndH (v u : Value) (l : List Head) (r : Head) (B : Nat) (C : Blk) (w : World) (h : Own tHead 61 w B C v l) (hl : l.length ≤ 1000000) (hB : B ≤ w.heap.size) (hu : ∃ vb, u = .slice (some ⟨vb, 0, none⟩) 1 1 ∧ Src tHead w (fun _ => False) (some ⟨vb, 0, none⟩) [r]) :
    Calls Tryz.prog 104 #[v, .int .i64 l.length, u] w (fun e w' => ∃ v', e = .returned v' ∧ Own tHead 61 w' B C v' (l ++ [r]) ∧ w.grownBy w' v.ownBlock) := by
  obtain ⟨vb, rfl, hsrc⟩ := hu
  have hs := h.sl (D := fun _ => True) (fun _ _ => trivial) (fun _ _ => trivial)
  obtain ⟨ao, cap, rfl, hcap, hmax⟩ := h.shape
  unfold maxLen at hmax
  obtain ⟨av, cv, _, qF, _, _⟩ := hs.cutFrom aHead (l.length : Int) l.length rfl (Nat.le_refl _)
  have HO := keepBack h
  clear h hs
  go_enter Tryz.func104, Tryz.ntmps104
  go_wp2_with (at_builtin; refine wpList_grow rfl (.tmp 23) (.tmp 24) rfl aHead rfl HO.out rfl rfl hsrc (by simp) (fun _ h => h.elim) (by simp; omega) hB ?_)
  intro v2 w2 ho2 hg2
  go_wp2
  go_ret
  exact ⟨_, rfl, ho2, hg2⟩
theorem insertGrowH (l : List Head) (r : Head) (i g cap B : Nat) (C : Blk) (w : World) (vb : Nat) (h : Own tHead 61 w B C (.slice (some ⟨g, 0, none⟩) l.length cap) l) (hi : i < l.length) (hl : l.length ≤ 1000000) (hB : B ≤ w.heap.size) (hc : cap < l.length + 1)
    (ok : i64ok r.2 ∧ r.1.size ≤ maxLen) (hvb : vb < w.heap.size) (hv0 : w.cell? ⟨vb, 0, none⟩ = some (.string r.1)) (hv1 : w.cell? ⟨vb, 1, none⟩ = some (.int .i64 r.2)) :
    Calls Tryz.prog 104 #[.slice (some ⟨g, 0, none⟩) l.length cap, .int .i64 i, .slice (some ⟨vb, 0, none⟩) 1 1] w (fun e w' => ∃ v', e = .returned v' ∧ Own tHead 61 w' B C v' (l.take i ++ r :: l.drop i) ∧ Below w.heap.size w w') := by
  obtain ⟨g', cap', cur, xs, hv, hBg, hgs, hg, hlc, hcm, hcl, hcx, hE⟩ := h.cells (by omega)
  simp only [Value.slice.injEq, Option.some.injEq, Addr.mk.injEq, and_true, true_and] at hv
  obtain ⟨rfl, rfl⟩ := hv
  have hxl : xs.length = l.length := hE.1
  have hxs := hE.lens
  unfold maxLen at hcm
  have hsz : tHead.size = 2 := rfl
  rw [hsz] at hcx hcl hxs
  obtain ⟨c0, c1⟩ := take_all_flat hcx hxs i (by omega)
  have hnl : (xs.drop i).flatten.length = (l.length - i) * 2 := by rw [flatten_len (sz := 2) _ (fun c hc => hxs c (List.mem_of_mem_drop hc)), List.length_drop, hxl]
  have hal : (xs.take i).flatten.length = i * 2 := by rw [flatten_len (sz := 2) _ (fun c hc => hxs c (List.mem_of_mem_take hc)), List.length_take, hxl, Nat.min_eq_left (by omega)]
  have hone : ∀ u ∈ (xs.drop i).flatten, u.oneCell' = true := (hE.drop i).ones
  obtain ⟨q, z, i1, i2, i3, i4, i5⟩ := aHead.info
  rw [hsz] at i3 i4
  -- the new row
  obtain ⟨k, hk⟩ : ∃ k, l.length + 1 - i = k := ⟨_, rfl⟩
  have hkk : ((l.length : Int) + 1 - (i : Int)) = (k : Int) := by omega
  have hik : i + k = l.length + 1 := by omega
  have hold : (Builtin.firstCells q.size i (.slice (some ⟨g, 0, none⟩) i cap)).run Tryz.prog w.drew = .ok (xs.take i).flatten.toArray w.drew := by
    rw [i3]
    refine run_firstCells_some w.drew 2 i ⟨g, 0, none⟩ i cap _ hal fun j v hj => ?_
    rw [Addr.add_lit, Nat.zero_add]
    show w.cell? _ = _
    rw [World.cell?, hg]
    have : cur.take (i * 2) = (xs.take i).flatten := c0
    rw [← this, List.getElem?_take] at hj
    split at hj
    · simpa using hj
    · cases hj
  have hrz := fun ty => Lib.run_append_grow_zeros (P := Tryz.prog) w 31 3 ty 61 q z .i64 .i64 Tryz.underlying31 Tryz.underlying3 i1 i2 (some ⟨g, 0, none⟩) i cap _ hold k (by omega) (by omega) (by omega) (by omega)
    (by have : k * q.bytes ≤ k * 64 := Nat.mul_le_mul_left _ i5
        omega) (growslice_fits (by omega) (by have : (i + k) * q.bytes ≤ (i + k) * 64 := Nat.mul_le_mul_left _ i5
                                              omega))
  rw [hik] at hrz
  have hG := grownCap_ge w (l.length + 1) cap 61
  have hG63 := grownCap_le_maxLen w (l.length + 1) cap 61 (by unfold maxLen; omega)
  generalize grownCap w (l.length + 1) cap 61 = G at *
  obtain ⟨row0, hrow0⟩ : ∃ row0 : List Value, row0 = ((xs.take i).flatten.toArray ++ Builtin.zeroCells z.cells k ++ Builtin.zeroCells z.cells (G - (l.length + 1))).toList := ⟨_, rfl⟩
  have hr0l : row0.length = G * 2 := by
    rw [hrow0]
    simp [Builtin.zeroCells, i4, hal, ← Nat.add_mul]
    omega
  have hr0t : row0.take (i * 2) = (xs.take i).flatten := by
    rw [hrow0]
    simp only [Array.toList_append, List.append_assoc]
    rw [← hal, List.take_left]
  rw [show (xs.take i).flatten.toArray ++ Builtin.zeroCells z.cells k ++ Builtin.zeroCells z.cells (G - (l.length + 1)) = row0.toArray by rw [hrow0]] at hrz
  obtain ⟨W1, hW1⟩ : ∃ W1, W1 = w.drew.alloc (.cells row0.toArray 61) := ⟨_, rfl⟩
  have hg1 : W1.heap[w.heap.size]? = some (.cells row0.toArray 61) := by rw [hW1]; exact heap_alloc_new w.drew _
  have hb1 : Below w.heap.size w W1 := by rw [hW1]; exact ((Below.refl _ _).drew).alloc (Nat.le_refl _) _
  -- the element
  have hcp1 := fun ty dc => run_copy_seg (w := W1) (cs := [.string r.1, .int .i64 r.2]) (g := w.heap.size) (o := i * 2) (dLen := l.length + 1 - i) (dCap := dc) (a := ⟨vb, 0, none⟩) (sLen := 1) (sCap := 1) (n := 1) aHead hg1 (by simp [Nat.min_def]; omega) rfl
    (by intro j v hj
        rw [Addr.add_lit, Nat.zero_add, (hb1.cell (p := ⟨vb, j, none⟩) hvb)]
        match j, hj with
        | 0, hj => simp at hj; subst hj; exact hv0
        | 1, hj => simp at hj; subst hj; exact hv1) (by simp; omega) (by intro v hv; simp at hv; rcases hv with rfl | rfl <;> rfl) ty
  have hs1 := seg_len (cur := row0) (cs := [.string r.1, .int .i64 r.2]) (o := i * 2) (by simp; omega)
  have ht1 : (seg row0 (i * 2) [.string r.1, .int .i64 r.2]).take ((i + 1) * 2) = (xs.take i).flatten ++ [.string r.1, .int .i64 r.2] := by
    rw [seg, hr0t]
    have e : ((xs.take i).flatten ++ [Value.string r.1, .int .i64 r.2]).length = (i + 1) * 2 := by simp [hal]; omega
    rw [← e, List.take_left]
  generalize seg row0 (i * 2) [.string r.1, .int .i64 r.2] = row1 at *
  obtain ⟨W2, hW2⟩ : ∃ W2, W2 = W1.setRow w.heap.size row1.toArray := ⟨_, rfl⟩
  have hg2 : W2.heap[w.heap.size]? = some (.cells row1.toArray 61) := by rw [hW2]; exact setRow_heap W1 _ _ _ _ _ hg1
  have hb2 : Below w.heap.size w W2 := by rw [hW2]; exact below_setRow hb1 (Nat.le_refl _) _
  rw [← hW1] at hrz
  rw [← hW2] at hcp1
  -- what stood from i on
  have hcp2 := fun ty dc sc => run_copy_seg (w := W2.drew) (cs := (xs.drop i).flatten) (g := w.heap.size) (o := (i + 1) * 2) (dLen := l.length - i) (dCap := dc) (a := ⟨g, i * 2, none⟩) (sLen := l.length - i) (sCap := sc) (n := l.length - i) aHead hg2 (by simp only [Nat.min_def]; split <;> omega) hnl
    (by intro j v hj
        have hold2 : W2.heap[g]? = some (.cells cur.toArray 61) := (hb2.block g hgs).trans hg
        rw [Addr.add_lit, World.cell?]
        show (match W2.heap[g]? with | some (.cells c _ _) => c[i * 2 + j]? | _ => none) = some v
        rw [hold2]
        simpa using c1 hxl j v hj) (by rw [hnl]; omega) hone ty
  have hs2 := seg_len (cur := row1) (cs := (xs.drop i).flatten) (o := (i + 1) * 2) (by rw [hnl]; omega)
  have ht2 : (seg row1 ((i + 1) * 2) (xs.drop i).flatten).take ((l.length + 1) * 2) = (xs.take i ++ [.string r.1, .int .i64 r.2] :: xs.drop i).flatten := by
    rw [seg, ht1]
    have e : ((xs.take i).flatten ++ [Value.string r.1, .int .i64 r.2] ++ (xs.drop i).flatten).length = (l.length + 1) * 2 := by simp only [List.length_append, hal, hnl]; simp; omega
    rw [← e, List.take_left]
    simp
  generalize seg row1 ((i + 1) * 2) (xs.drop i).flatten = row2 at *
  obtain ⟨W3, hW3⟩ : ∃ W3, W3 = W2.drew.setRow w.heap.size row2.toArray := ⟨_, rfl⟩
  have hg3 : W3.heap[w.heap.size]? = some (.cells row2.toArray 61) := by rw [hW3]; exact setRow_heap W2.drew _ _ _ _ _ hg2
  have hb3 : Below w.heap.size w W3 := by rw [hW3]; exact below_setRow hb2.drew (Nat.le_refl _) _
  rw [← hW3] at hcp2
  have FIN : Hid (Own tHead 61 W3 B C (.slice (some ⟨w.heap.size, 0, none⟩) (l.length + 1) G) (l.take i ++ r :: l.drop i)) := keepBack (by
    have hll : (l.take i ++ r :: l.drop i).length = l.length + 1 := by simp; omega
    have hE1 : Each tHead w (fun k => C k ∧ k ≠ w.heap.size) xs l := (hE.mono (C := fun k => (C k ∧ k ≠ g) ∧ k < w.heap.size) fun k hk hlt => ⟨hk, hlt⟩).mono fun k hk hlt => ⟨hk.1.1, by omega⟩
    have hE2 : Each tHead W3 (fun k => C k ∧ k ≠ w.heap.size) (xs.take i ++ [.string r.1, .int .i64 r.2] :: xs.drop i) (l.take i ++ r :: l.drop i) :=
      ((hE1.take i).app ((Each.one _ _ (show tHead.rd w _ [.string r.1, .int .i64 r.2] r from ⟨rfl, ok⟩)).app (hE1.drop i))).keep fun k hk hlt => hb3.block k hlt
    have := Own.of_cells (B := B) (C := C) (cap := G) hB hg3 (by omega) hG63 (by rw [hs2, hs1, hr0l, hsz]) (by rw [hll, hsz]; exact ht2) hE2
    rwa [hll] at this)
  have q1 := run_cutFrom aHead (some ⟨g, 0, none⟩) l.length cap i (i : Int) rfl (by omega)
  rw [cutAddr_on (by omega), hsz, Nat.zero_add] at q1
  have q2 := run_cutTo aHead (some ⟨g, 0, none⟩) l.length cap i (i : Int) rfl (by omega)
  rw [cutAddr_zero] at q2
  have q3 := run_cutFrom aHead (some ⟨w.heap.size, 0, none⟩) (l.length + 1) G i (i : Int) rfl (by omega)
  rw [cutAddr_on (by omega), hsz, Nat.zero_add] at q3
  have q4 := run_cutFrom aHead (some ⟨w.heap.size, 0, none⟩) (l.length + 1) G (i + 1) ((i : Int) + 1) (by omega) (by omega)
  rw [cutAddr_on (by omega), hsz, Nat.zero_add] at q4
  have hz2 : ((i : Int) == (l.length : Int)) = false := by simp; omega
  have hz3 : (cap : Int) < (l.length : Int) + 1 := by omega
  have HB3 := keepBack hb3
  unfold maxLen at hG63
  clear hW3 hg3 hb3 hs2 ht2 hW2 hg2 hb2 hW1 hg1 hb1 hs1 ht1 hr0t hr0l hrow0 hold hone hnl hal c0 c1 hE hxs hcx hxl hg hcl h hk hik i1 i2 i3 i4 i5 ok hv0 hv1 hvb
  go_enter Tryz.func104, Tryz.ntmps104
  go_wp2_with (first
    | (at_builtin; refine Lib.wpList_append_run _ rfl _ _ _ _ rfl _ _ rfl rfl _ _ (hrz _) ?_)
    | (at_builtin; refine wpList_copy_is rfl _ _ 31 31 rfl _ _ rfl rfl (hcp1 _ _) ?_))
  have hw1 : IntKind.i64.wrap ((i : Int) + 1) = (i : Int) + 1 := by rw [IntKind.wrap_i64]; omega
  go_region_law (refine step_copy_is rfl _ _ 31 31 rfl _ _ (by simp [Act.eval, Act.put]) (by simp [Act.eval, Act.put]) (hcp2 _ _ _) ?_)
  go_wp2
  go_ret
  exact ⟨_, rfl, FIN.out, HB3.out⟩
theorem insertRoomH (l : List Head) (r : Head) (i g cap B : Nat) (C : Blk) (w : World) (vb : Nat) (h : Own tHead 61 w B C (.slice (some ⟨g, 0, none⟩) l.length cap) l) (hi : i < l.length) (hl : l.length ≤ 1000000) (hc : l.length + 1 ≤ cap)
    (ok : i64ok r.2 ∧ r.1.size ≤ maxLen) (hne : vb ≠ g) (hv : w.heap[vb]? = some (.cells #[.string r.1, .int .i64 r.2] 61)) :
    Calls Tryz.prog 104 #[.slice (some ⟨g, 0, none⟩) l.length cap, .int .i64 i, .slice (some ⟨vb, 0, none⟩) 1 1] w (fun e w' => ∃ v', e = .returned v' ∧ Own tHead 61 w' B C v' (l.take i ++ r :: l.drop i) ∧ w.grownBy w' (some g)) := by
  obtain ⟨g', cap', cur, xs, hv', hBg, hgs, hg, hlc, hcm, hcl, hcx, hE⟩ := h.cells (by omega)
  simp only [Value.slice.injEq, Option.some.injEq, Addr.mk.injEq, and_true, true_and] at hv'
  obtain ⟨rfl, rfl⟩ := hv'
  have hxl : xs.length = l.length := hE.1
  have hxs := hE.lens
  unfold maxLen at hcm
  have hsz : tHead.size = 2 := rfl
  rw [hsz] at hcx hcl hxs
  obtain ⟨c0, c1⟩ := take_all_flat hcx hxs i (by omega)
  have hnl : (xs.drop i).flatten.length = (l.length - i) * 2 := by rw [flatten_len (sz := 2) _ (fun c hc => hxs c (List.mem_of_mem_drop hc)), List.length_drop, hxl]
  have hal : (xs.take i).flatten.length = i * 2 := by rw [flatten_len (sz := 2) _ (fun c hc => hxs c (List.mem_of_mem_take hc)), List.length_take, hxl, Nat.min_eq_left (by omega)]
  have hone : ∀ u ∈ (xs.drop i).flatten, u.oneCell' = true := (hE.drop i).ones
  -- what stood from i on
  have hcp1 := fun ty dc sc => run_copy_seg (w := w.drew) (cs := (xs.drop i).flatten) (g := g) (o := (i + 1) * 2) (dLen := l.length - i) (dCap := dc) (a := ⟨g, i * 2, none⟩) (sLen := l.length + 1 - i) (sCap := sc) (n := l.length - i) aHead hg (by simp only [Nat.min_def]; split <;> omega) hnl
    (by intro j v hj
        rw [Addr.add_lit]
        show w.cell? _ = _
        rw [World.cell?, hg]
        simpa using c1 hxl j v hj) (by rw [hnl]; omega) hone ty
  have hs1 := seg_len (cur := cur) (cs := (xs.drop i).flatten) (o := (i + 1) * 2) (by rw [hnl]; omega)
  have hd1 : (seg cur ((i + 1) * 2) (xs.drop i).flatten).take (i * 2) = (xs.take i).flatten ∧ ((seg cur ((i + 1) * 2) (xs.drop i).flatten).drop ((i + 1) * 2)).take ((l.length - i) * 2) = (xs.drop i).flatten := by
    constructor
    · rw [← c0]
      have := seg_take (cur := cur) (o := (i + 1) * 2) (xs.drop i).flatten (by omega)
      have h2 := congrArg (List.take (i * 2)) this
      rw [List.take_take, List.take_take, Nat.min_eq_left (by omega)] at h2
      exact h2
    · rw [seg]
      have e : (cur.take ((i + 1) * 2)).length = (i + 1) * 2 := by rw [List.length_take]; omega
      rw [List.append_assoc, List.drop_append_of_le_length (by omega), List.drop_eq_nil_of_le (by omega), List.nil_append, ← hnl, List.take_left]
  generalize seg cur ((i + 1) * 2) (xs.drop i).flatten = row1 at *
  obtain ⟨W1, hW1⟩ : ∃ W1, W1 = w.drew.setRow g row1.toArray := ⟨_, rfl⟩
  have hg1 : W1.heap[g]? = some (.cells row1.toArray 61) := by rw [hW1]; exact setRow_heap w.drew _ _ _ _ _ hg
  have hv1 : W1.heap[vb]? = some (.cells #[.string r.1, .int .i64 r.2] 61) := by rw [hW1]; exact (setRow_other w.drew g vb _ hne).trans hv
  rw [← hW1] at hcp1
  have hcp2 := fun ty dc => run_copy_seg (w := W1) (cs := [.string r.1, .int .i64 r.2]) (g := g) (o := i * 2) (dLen := l.length + 1 - i) (dCap := dc) (a := ⟨vb, 0, none⟩) (sLen := 1) (sCap := 1) (n := 1) aHead hg1 (by simp [Nat.min_def]; omega) rfl
    (by intro j v hj
        rw [Addr.add_lit, Nat.zero_add, World.cell?, hv1]
        simpa using hj) (by simp; omega) (by intro v hv; simp at hv; rcases hv with rfl | rfl <;> rfl) ty
  have hs2 := seg_len (cur := row1) (cs := [.string r.1, .int .i64 r.2]) (o := i * 2) (by simp; omega)
  have ht2 : (seg row1 (i * 2) [.string r.1, .int .i64 r.2]).take ((l.length + 1) * 2) = (xs.take i ++ [.string r.1, .int .i64 r.2] :: xs.drop i).flatten := by
    rw [seg, hd1.1]
    have e : ((xs.take i).flatten ++ [Value.string r.1, .int .i64 r.2]).length = (i + 1) * 2 := by simp [hal]; omega
    rw [List.take_append, List.take_of_length_le (by omega), e, List.length_cons, List.length_cons, List.length_nil, show i * 2 + (0 + 1 + 1) = (i + 1) * 2 by omega, show (l.length + 1) * 2 - (i + 1) * 2 = (l.length - i) * 2 by omega, hd1.2]
    simp
  generalize seg row1 (i * 2) [.string r.1, .int .i64 r.2] = row2 at *
  obtain ⟨W2, hW2⟩ : ∃ W2, W2 = W1.setRow g row2.toArray := ⟨_, rfl⟩
  have hg2 : W2.heap[g]? = some (.cells row2.toArray 61) := by rw [hW2]; exact setRow_heap W1 _ _ _ _ _ hg1
  have hgr : w.grownBy W2 (some g) := by
    rw [hW2, hW1, setRow_setRow]
    exact ⟨rfl, rfl, rfl, by rw [setRow_size]; exact Nat.le_refl _, fun k _ hk => setRow_other w.drew g k _ (fun e => hk (by rw [e]))⟩
  rw [← hW2] at hcp2
  have FIN : Hid (Own tHead 61 W2 B C (.slice (some ⟨g, 0, none⟩) (l.length + 1) cap) (l.take i ++ r :: l.drop i) ∧ w.grownBy W2 (some g)) := keepBack (by
    refine ⟨?_, hgr⟩
    have hll : (l.take i ++ r :: l.drop i).length = l.length + 1 := by simp; omega
    have hE2 : Each tHead W2 (fun k => C k ∧ k ≠ g) (xs.take i ++ [.string r.1, .int .i64 r.2] :: xs.drop i) (l.take i ++ r :: l.drop i) :=
      ((hE.take i).app ((Each.one _ _ (show tHead.rd w _ [.string r.1, .int .i64 r.2] r from ⟨rfl, ok⟩)).app (hE.drop i))).keep fun k hk hlt => hgr.block k hlt (fun e => hk.2 (Option.some.inj e))
    have := Own.of_cells (B := B) (C := C) (cap := cap) hBg hg2 (by omega) (by unfold maxLen; omega) (by rw [hs2, hs1, hcl, hsz]) (by rw [hll, hsz]; exact ht2) hE2
    rwa [hll] at this)
  have hov : ∀ lb cb, (callFunc 138 #[.slice (some ⟨vb, 0, none⟩) 1 1, .slice (some ⟨g, (i + 1) * 2, none⟩) lb cb]).run Tryz.prog w = .ok (.value (.bool false)) w := fun lb cb => by
    rw [run_callFunc_extern Tryz.func138 (by kernel_rfl) (by kernel_rfl) (by kernel_rfl) (e := Extern.SlicesOverlaps.overlaps #[31, 31] #[4]) (by kernel_rfl),
      Lib.run_overlaps_apart w 31 4 61 Tryz.underlying31 2 sizeHead ⟨vb, 0, none⟩ ⟨g, (i + 1) * 2, none⟩ 1 1 lb cb hne 61 61 2 cur.length (by simp [World.shape?, hv]) (by simp [World.shape?, hg]) (by omega) (frozen_plain' hv) (frozen_plain' hv)]
    rfl
  have q0 := run_cutFrom aHead (some ⟨g, 0, none⟩) l.length cap i (i : Int) rfl (by omega)
  rw [cutAddr_on (by omega), hsz, Nat.zero_add] at q0
  have q1 := run_cutTo aHead (some ⟨g, 0, none⟩) l.length cap (l.length + 1) ((l.length : Int) + 1) (by omega) hc
  rw [cutAddr_zero] at q1
  have q3 := run_cutFrom aHead (some ⟨g, 0, none⟩) (l.length + 1) cap i (i : Int) rfl (by omega)
  rw [cutAddr_on (by omega), hsz, Nat.zero_add] at q3
  have q4 := run_cutFrom aHead (some ⟨g, 0, none⟩) (l.length + 1) cap (i + 1) ((i : Int) + 1) (by omega) (by omega)
  rw [cutAddr_on (by omega), hsz, Nat.zero_add] at q4
  have hz2 : ((i : Int) == (l.length : Int)) = false := by simp; omega
  have hz3 : ¬ (cap : Int) < (l.length : Int) + 1 := by omega
  have hz4 : (l.length : Int) + 1 ≤ (cap : Int) := by omega
  clear hgr hW2 hg2 hs2 ht2 hd1 hs1 hW1 hg1 hv1 hone hnl hal c0 c1 hE hxs hcx hxl hg hcl h ok hv hne
  go_enter Tryz.func104, Tryz.ntmps104
  go_wp2_with (simp only [hov])
  have hw1 : IntKind.i64.wrap ((i : Int) + 1) = (i : Int) + 1 := by rw [IntKind.wrap_i64]; omega
  go_region_law (refine step_copy_is rfl _ _ 31 31 rfl _ _ (by simp [Act.eval, Act.put]) (by simp [Act.eval, Act.put]) (hcp1 _ _ _) ?_)
  go_wp2_with (at_builtin; refine wpList_copy_is rfl _ _ 31 31 rfl _ _ rfl rfl (hcp2 _ _) ?_)
  go_ret
  exact ⟨_, rfl, FIN.out⟩
end Go.Pch
end

section
namespace Go.Pch
open Go.RowKit Go.Proofs
set_option maxRecDepth 100000
theorem grownBy_of {w w' : World} (h : Below w.heap.size w w') (row : Option Nat) : w.grownBy w' row := ⟨h.os, h.tape, h.output, h.size, fun k hk _ => h.block k hk⟩
theorem insertHead (v : Value) (l : List Head) (x : Head) (i B : Nat) (C : Blk) (w : World) (vb : Nat) (h : Own tHead 61 w B C v l) (hi : i ≤ l.length) (h0 : 0 < l.length) (hl : l.length ≤ 1000) (hB : B ≤ w.heap.size)
    (ok : i64ok x.2 ∧ x.1.size ≤ maxLen) (hne : v.ownBlock ≠ some vb) (hv : w.heap[vb]? = some (.cells #[.string x.1, .int .i64 x.2] 61)) :
    Calls Tryz.prog 104 #[v, .int .i64 i, .slice (some ⟨vb, 0, none⟩) 1 1] w (fun e w' => ∃ v', e = .returned v' ∧ Own tHead 61 w' B C v' (l.take i ++ x :: l.drop i) ∧ w.grownBy w' v.ownBlock) := by
  have hvb : vb < w.heap.size := (Array.getElem?_eq_some_iff.1 hv).1
  have c0 : w.cell? ⟨vb, 0, none⟩ = some (.string x.1) := by rw [World.cell?, hv]; rfl
  have c1 : w.cell? ⟨vb, 1, none⟩ = some (.int .i64 x.2) := by rw [World.cell?, hv]; rfl
  by_cases he : i = l.length
  · subst he
    refine (insertEndH v _ l x B C w h (by omega) hB ⟨vb, rfl, [[.string x.1, .int .i64 x.2]], Each.one _ _ ⟨rfl, ok⟩, (fun e => by cases e), fun ad had j u hj => ?_⟩).mono fun e w' ⟨v', h1, h2, h3⟩ => ⟨v', h1, by simpa using h2, h3⟩
    obtain rfl := Option.some.inj had
    rw [Addr.add_lit, Nat.zero_add, World.cell?, hv]
    simpa using hj
  · obtain ⟨g, cap, cur, xs, rfl, _, hgs, _, hlc, _⟩ := h.cells h0
    by_cases hr : l.length + 1 ≤ cap
    · exact insertRoomH l x i g cap B C w vb h (by omega) (by omega) hr ok (fun e => hne (by rw [e]; rfl)) hv
    · exact (insertGrowH l x i g cap B C w vb h (by omega) (by omega) hB (by omega) ok hvb c0 c1).mono fun e w' ⟨v', h1, h2, h3⟩ => ⟨v', h1, h2, grownBy_of h3 _⟩
theorem DeskAt.setHeads {w w' : World} {B db : Nat} {vc vh vh' : Value} {r : Repo} {l : List Head} (h : DeskAt w B db vc vh r) (ho : Own tHead 61 w' B (fun _ => False) vh' l) (hg : w.grownBy w' vh.ownBlock) :
    w'.heap[db]? = some (.cells #[vc, vh] 138) ∧ (w'.setCell ⟨db, 1, none⟩ vh').heap[db]? = some (.cells #[vc, vh'] 138) ∧ Rp (w'.setCell ⟨db, 1, none⟩ vh') (fun k => B ≤ k) (.agg #[vc, vh']) (r.1, l) := by
  have hap := h.apart
  have hrow : w'.heap[db]? = some (.cells #[vc, vh] 138) := (hg.block db h.lt fun e => hap.2.1 e.symm).trans h.row
  have hn : vh'.ownBlock ≠ some db := fun e => by
    obtain ⟨cur, hc⟩ := ho.rowAt _ e
    rw [hrow] at hc
    simp at hc
  have hc : Own tCommit 59 (w'.setCell ⟨db, 1, none⟩ vh') B (fun k => (B ≤ k ∧ some k ≠ vh.ownBlock) ∧ k ≠ db) vc r.1 := (h.coms.keep (w' := w') fun k hk hlt => hg.block k hlt (by
      rcases hk with hk | hk
      · exact hk.1.2
      · intro e; exact hap.2.2 k hk e.symm)).keep fun k hk _ => heap_setCell_other _ _ _ _ (by
      rcases hk with hk | hk
      · exact hk.2
      · intro e; exact hap.1 (by rw [hk, e]))
  have hh := ho.keep (w' := w'.setCell ⟨db, 1, none⟩ vh') fun k hk _ => heap_setCell_other _ _ _ _ (by
      rcases hk with hk | hk
      · exact hk.elim
      · intro e; exact hn (by rw [hk, e]))
  exact ⟨hrow, heap_setCell_same w' db 1 _ _ vh' hrow, _, _, rfl, hc.sl (fun _ hk => hk.1.1) (fun _ h => h), hh.sl (fun _ hk => hk.elim) (fun _ h => h)⟩
theorem branchN_name {r : Repo} {s : ByteArray} {n : Int} (h : nameB s = false) : branchN r s n = (noRepo, 4) := by rw [branchN, h]; rfl
theorem branchN_there {r : Repo} {s : ByteArray} {n : Int} (h : nameB s = true) (h1 : hdHas r.2 s = true) : branchN r s n = (noRepo, 6) := by rw [branchN, if_pos h, if_pos h1]
theorem branchN_many {r : Repo} {s : ByteArray} {n : Int} (h : nameB s = true) (h1 : hdHas r.2 s = false) (h2 : r.2.length = 4) : branchN r s n = (noRepo, 2) := by rw [branchN, if_pos h, h1, if_pos h2]; rfl
theorem branchN_ok {r : Repo} {s : ByteArray} {n : Int} (h : nameB s = true) (h1 : hdHas r.2 s = false) (h2 : r.2.length ≠ 4) : branchN r s n = ((r.1, r.2.take (hdN r.2 s) ++ (s, n) :: r.2.drop (hdN r.2 s)), 0) := by rw [branchN, if_pos h, h1, if_neg h2]; rfl
theorem repoName_of {c : Bool} (s : ByteArray) (w : World) (h : nameB s = c) : Calls Tryz.prog 102 #[.string s] w (Ret w fun r _ => r = .bool c) := h ▸ repoName s w
theorem repoWhere_of {k : Nat} {c : Bool} (v : Value) (r : Repo) (key : ByteArray) (S : Blk) (w : World) (h : Rp w S v r) (hr : headsRise r.1.length [] r.2 = true) (hl : r.2.length ≤ 1000000) (hk : hdN r.2 key = k) (hc : hdHas r.2 key = c) :
    Calls Tryz.prog 103 #[v, .string key] w (Ret w fun x _ => x = .tuple #[.int .i64 (k : Nat), .bool c]) := hk ▸ hc ▸ repoWhere v r key S w h hr hl
theorem hdN_le : ∀ (hs : List Head) (s : ByteArray), hdN hs s ≤ hs.length
  | [], _ => Nat.le_refl _
  | h :: hs, s => by
    rw [hdN]
    split
    · have := hdN_le hs s; simp; omega
    · simp
theorem name_few {s : ByteArray} (h : nameB s = true) : s.size ≤ 8 := by
  rw [nameB, Bool.and_eq_true, Bool.and_eq_true, decide_eq_true_eq, decide_eq_true_eq] at h
  exact h.1.2
set_option maxHeartbeats 1000000 in
theorem workBranch (v : Value) (r : Repo) (s f : ByteArray) (S : Blk) (w : World) (h : Rp w S v r) :
    Calls Tryz.prog 55 #[v, .string s, .string f] w (Ret w (RepoRet w.heap.size (jBranch r s f))) := by
  have hR := h
  obtain ⟨cs, hs⟩ := r
  obtain ⟨vc, vh, rfl, hc, hh⟩ := h
  obtain ⟨ac, cc, rfl, _, _, _⟩ := hc.shape
  obtain ⟨ah, ch, rfl, _, _, _⟩ := hh.shape
  simp only at hc hh
  have hX := boxAt w (.slice ac cs.length cc) (.slice ah hs.length ch)
  obtain ⟨wB, hwB⟩ : ∃ wB, wB = (w.alloc (.cells #[.slice ac cs.length cc, .slice ah hs.length ch] 33)).alloc (.cells #[.slice none 0 0, .slice none 0 0] 33) := ⟨_, rfl⟩
  rw [← hwB] at hX
  have HWB := keepBack hwB
  clear hwB
  have zB := hX.size
  obtain ⟨wN, hwN⟩ : ∃ wN, wN = wB.alloc (.cells #[.string f] 9) := ⟨_, rfl⟩
  have bN : Below wB.heap.size wB wN := by rw [hwN]; exact (Below.refl _ _).alloc (Nat.le_refl _) _
  have zN : wN.heap.size = w.heap.size + 3 := by rw [hwN]; simp; omega
  have hnm : Sl tStr wN (fun k => wB.heap.size ≤ k) (.slice (some ⟨wB.heap.size, 0, none⟩) 1 1) [f] := by rw [hwN]; exact oneStr wB f
  rw [show wB.heap.size = w.heap.size + 1 + 1 by omega] at hnm
  have HWN := keepBack hwN
  clear hwN
  have hRN := (hR.call hX.low).call (bN.mono (Nat.le_refl _))
  by_cases he : (headP (cs, hs) f).2 = 0
  · obtain ⟨he0, n, hn, hP, x, hx, hxs, hxn⟩ := head_there he
    have HJ := keepBack (jBranch_at (s := s) hP)
    have hrk := (repo_ok he0).2.2.2
    have hs4 := (repo_ok he0).2.1
    have hc14 := (dag_ok (repo_ok he0).1).1
    simp only at hrk hs4 hc14 hn hx
    cases hnb : nameB s with
    | false =>
      have HP := keepBack (HJ.out.trans (branchN_name hnb))
      go_enter Tryz.func55, Tryz.ntmps55
      go_wp2_with fail
      rw [← HWB.out, ← HWN.out]
      refine (openOk _ _ (cs, hs) f n _ _ wN hRN hnm hP).mono ?_; rintro e w1 ⟨_, rfl, ⟨db, vc1, vh1, q, rfl, hD, hq⟩, b1⟩
      have bB1 := bN.trans (b1.mono (by omega))
      go_wp2_with fail
      refine (repoName_of _ w1 hnb).mono ?_; rintro e w2 ⟨_, rfl, rfl, b2⟩
      have bB2 := bB1.trans (b2.mono bB1.size)
      obtain ⟨y0, y1, y2, y3, yf⟩ := hX.on bB2
      go_wp2_with fail
      exact bodyPost_ret (repoResults rfl _ _ _ _ _ _ _ rfl rfl (hX.fin bB2 _ _).1) rfl ⟨_, rfl, RepoRet.no HP.out, (hX.fin bB2 _ _).2⟩
    | true =>
      obtain ⟨k, hk⟩ : ∃ k, hdN hs s = k := ⟨_, rfl⟩
      cases hhb : hdHas hs s with
      | true =>
        have HP := keepBack (HJ.out.trans (branchN_there hnb hhb))
        go_enter Tryz.func55, Tryz.ntmps55
        go_wp2_with fail
        rw [← HWB.out, ← HWN.out]
        refine (openOk _ _ (cs, hs) f n _ _ wN hRN hnm hP).mono ?_; rintro e w1 ⟨_, rfl, ⟨db, vc1, vh1, q, rfl, hD, hq⟩, b1⟩
        have bB1 := bN.trans (b1.mono (by omega))
        go_wp2_with fail
        refine (repoName_of _ w1 hnb).mono ?_; rintro e w2 ⟨_, rfl, rfl, b2⟩
        have bB2 := bB1.trans (b2.mono bB1.size)
        obtain ⟨y0, y1, y2, y3, yf⟩ := hX.on bB2
        go_wp2_with fail
        refine (repoWhere_of _ (cs, hs) s S w2 (hR.call (hX.low.trans (bB2.mono (by omega)))) hrk (by show hs.length ≤ 1000000; omega) hk hhb).mono ?_; rintro e w3 ⟨_, rfl, rfl, b3⟩
        have bB3 := bB2.trans (b3.mono bB2.size)
        clear y0 y1 y2 y3 yf
        obtain ⟨y0, y1, y2, y3, yf⟩ := hX.on bB3
        go_wp2_with fail
        exact bodyPost_ret (repoResults rfl _ _ _ _ _ _ _ rfl rfl (hX.fin bB3 _ _).1) rfl ⟨_, rfl, RepoRet.no HP.out, (hX.fin bB3 _ _).2⟩
      | false =>
        by_cases h4 : hs.length = 4
        · have HP := keepBack (HJ.out.trans (branchN_many hnb hhb h4))
          rw [h4] at hX HWB hRN
          have H4 := keepBack h4
          clear h4
          go_enter Tryz.func55, Tryz.ntmps55
          rw [H4.out]
          go_wp2_with fail
          rw [← HWB.out, ← HWN.out]
          refine (openOk _ _ (cs, hs) f n _ _ wN hRN hnm hP).mono ?_; rintro e w1 ⟨_, rfl, ⟨db, vc1, vh1, q, rfl, hD, hq⟩, b1⟩
          have bB1 := bN.trans (b1.mono (by omega))
          go_wp2_with fail
          refine (repoName_of _ w1 hnb).mono ?_; rintro e w2 ⟨_, rfl, rfl, b2⟩
          have bB2 := bB1.trans (b2.mono bB1.size)
          obtain ⟨y0, y1, y2, y3, yf⟩ := hX.on bB2
          go_wp2_with fail
          have hR2 := hR.call (hX.low.trans (bB2.mono (by omega)))
          rw [H4.out] at hR2
          refine (repoWhere_of _ (cs, hs) s S w2 hR2 hrk (by show hs.length ≤ 1000000; omega) hk hhb).mono ?_; rintro e w3 ⟨_, rfl, rfl, b3⟩
          have bB3 := bB2.trans (b3.mono bB2.size)
          clear y0 y1 y2 y3 yf
          obtain ⟨y0, y1, y2, y3, yf⟩ := hX.on bB3
          go_wp2_with fail
          exact bodyPost_ret (repoResults rfl _ _ _ _ _ _ _ rfl rfl (hX.fin bB3 _ _).1) rfl ⟨_, rfl, RepoRet.no HP.out, (hX.fin bB3 _ _).2⟩
        · have HP := keepBack (HJ.out.trans (branchN_ok hnb hhb (by exact h4)))
          have h4' : ((hs.length : Nat) : Int) ≠ 4 := by omega
          have hkl := hdN_le hs s
          have hl0 : 0 < hs.length := by have := (List.getElem?_eq_some_iff.1 hx).1; omega
          have hnf := name_few hnb
          simp only [hk] at HP hkl
          clear hx
          go_enter Tryz.func55, Tryz.ntmps55
          go_wp2_with fail
          rw [← HWB.out, ← HWN.out]
          refine (openOk _ _ (cs, hs) f n _ _ wN hRN hnm hP).mono ?_; rintro e w1 ⟨_, rfl, ⟨db, vc1, vh1, q, rfl, hD, hq⟩, b1⟩
          have bB1 := bN.trans (b1.mono (by omega))
          go_wp2_with fail
          refine (repoName_of _ w1 hnb).mono ?_; rintro e w2 ⟨_, rfl, rfl, b2⟩
          have bB2 := bB1.trans (b2.mono bB1.size)
          obtain ⟨y0, y1, y2, y3, yf⟩ := hX.on bB2
          go_wp2_with fail
          refine (repoWhere_of _ (cs, hs) s S w2 (hR.call (hX.low.trans (bB2.mono (by omega)))) hrk (by show hs.length ≤ 1000000; omega) hk hhb).mono ?_; rintro e w3 ⟨_, rfl, rfl, b3⟩
          have bB3 := bB2.trans (b3.mono bB2.size)
          have b13 := b2.trans (b3.mono b2.size)
          have hD3 := hD.call b13
          have hq3 := hq.call b13
          obtain ⟨aq, cq, rfl, _, _, _⟩ := hq3.shape
          simp only [List.length_cons, List.length_nil, Nat.zero_add] at hq3
          obtain ⟨bq, oq, hixq, _, hbq, _, hcq⟩ := hq3.idxInt aInt 0 0 rfl (by simp)
          clear y0 y1 y2 y3 yf
          obtain ⟨y0, y1, y2, y3, yf⟩ := hX.on bB3
          have d0 := hD3.cell0
          have d1 := hD3.cell1
          obtain ⟨g1, c1, cur, xs, rfl, hg1N, _, _, _, _, _, _, _⟩ := hD3.heads.cells hl0
          obtain ⟨av, cv, rfl, _, _⟩ := hD3.coms.shape
          have bL : Below w3.heap.size w3 (w3.alloc (.cells #[.string s, .int .i64 n] 61)).drew := ((Below.refl _ _).alloc (Nat.le_refl _) _).drew
          have hDX := hD3.call bL
          have zN3 := bB3.size
          have z13 := b1.size
          have z13' := b13.size
          have hap := hD3.apart
          have T := insertHead (.slice (some ⟨g1, 0, none⟩) hs.length c1) hs (s, (n : Int)) k wN.heap.size _ _ w3.heap.size hDX.heads hkl hl0 (by omega) (by have := bL.size; omega) ⟨by unfold i64ok; simp only; omega, by unfold maxLen; simp only; omega⟩ (fun e => by have := (hD3.heads.block _ e).2; omega) (heap_alloc_new w3 _)
          have hDB := hD3.low
          generalize hs.take k ++ (s, (n : Int)) :: hs.drop k = L at T HP
          have d0X := hDX.cell0
          have d1X := hDX.cell1
          go_wp2_with fail
          go_region_law (first
            | (go_simp; go_at_call 104; refine T.mono ?_; rintro e w4 ⟨v4, rfl, ho4, hg4⟩; obtain ⟨row4, row5, hR5⟩ := hDX.setHeads ho4 hg4; obtain ⟨a4, c4, hv4, _, _⟩ := ho4.shape; generalize L.length = m4 at hv4; subst hv4; have e1 : w4.cell? ⟨db, 1, none⟩ = some (.slice (some ⟨g1, 0, none⟩) hs.length c1) := (by rw [World.cell?, row4]; rfl); have ef := frozen_of_row w4 db 1 _ _ row4)
            | fail)
          all_goals
            have bB5 : Below wB.heap.size wB (w4.setCell ⟨db, 1, none⟩ (.slice a4 m4 c4)) := ((bB3.trans (bL.mono bB3.size)).grown hg4 (by have := bL.size; omega) (fun g hg => by simp [Value.ownBlock] at hg; omega)).setCell (by simp; omega) _
            have e50 : (w4.setCell ⟨db, 1, none⟩ (.slice a4 m4 c4)).cell? ⟨db, 0, none⟩ = some (.slice av cs.length cv) := by rw [World.cell?, row5]; rfl
            have e51 : (w4.setCell ⟨db, 1, none⟩ (.slice a4 m4 c4)).cell? ⟨db, 1, none⟩ = some (.slice a4 m4 c4) := by rw [World.cell?, row5]; rfl
            clear y0 y1 y2 y3 yf e1 ef row4 row5 hg4 ho4 d0X d1X d0 d1 T
            obtain ⟨y0, y1, y2, y3, yf⟩ := hX.on bB5
            have hR5' : Rp (w4.setCell ⟨db, 1, none⟩ (.slice a4 m4 c4)) (fun k => wB.heap.size ≤ k) (.agg #[.slice av cs.length cv, .slice a4 m4 c4]) (cs, L) := by
              obtain ⟨_, _, e1, e2, e3⟩ := hR5
              exact ⟨_, _, e1, e2.mono fun k hk _ => by omega, e3.mono fun k hk _ => by omega⟩
            generalize w4.setCell ⟨db, 1, none⟩ (.slice a4 m4 c4) = w5 at *
            go_wp2_with fail
            exact bodyPost_ret (repoResults rfl _ _ _ _ _ _ _ rfl rfl (hX.fin bB5 _ _).1) rfl ⟨_, rfl, ⟨_, by rw [HP.out]; rfl, by rw [HP.out]; exact hX.rp hR5'⟩, (hX.fin bB5 _ _).2⟩
  · have HP := keepBack (jBranch_bad (s := s) he)
    have hq : ((headP (cs, hs) f).2 != 0) = true := by simp [he]
    go_enter Tryz.func55, Tryz.ntmps55
    go_wp2_with fail
    rw [← HWB.out, ← HWN.out]
    refine (openBad _ _ (cs, hs) f _ _ wN hRN hnm).mono ?_; rintro e w1 ⟨_, rfl, ⟨p, q, rfl⟩, b1⟩
    have bB1 := bN.trans (b1.mono (by omega))
    obtain ⟨y0, y1, y2, y3, yf⟩ := hX.on bB1
    go_wp2_with fail
    exact bodyPost_ret (repoResults rfl _ _ _ _ _ _ _ rfl rfl (hX.fin bB1 _ _).1) rfl ⟨_, rfl, RepoRet.no HP.out, (hX.fin bB1 _ _).2⟩
end Go.Pch
end

section
namespace Go.Pch
open Go.RowKit Go.Proofs Go.Maps
theorem intKeyed : Keyed Tryz.prog 3 := int_keyed Tryz.underlying3
theorem intZero (w : World) : (zeroValue 3).run Tryz.prog w = .ok (.int .i64 0) w := by kernel_rfl
theorem i64wf {n : Int} (h : i64ok n) : (Lit.int .i64 n).wf = true := by
  unfold i64ok at h
  simp only [Lit.wf, IntKind.min, IntKind.max, IntKind.signed, IntKind.bits, Bool.and_eq_true, decide_eq_true_eq, if_true]
  omega
def MapI (w : World) (b n : Nat) (f : Int → Option Int) : Prop :=
  ∃ D : DataW Unit, w.ownsMap Tryz.prog 3 (plainElem Tryz.prog 3) b n D ∧ ∀ k, Maps.has D (.int .i64 k) = (f k).isSome ∧ D.atKey (.int .i64 k) (.lit (.int .i64 0)) = .lit (.int .i64 ((f k).getD 0))
theorem MapI.made (w : World) : MapI (w.alloc (.map #[] 0)) w.heap.size 0 (fun _ => none) :=
  ⟨.map [], World.ownsMap_made _ _ _ _, fun _ => ⟨rfl, rfl⟩⟩
theorem MapI.kept {w w' : World} {b n : Nat} {f : Int → Option Int} {row : Option Nat} (h : MapI w b n f) (hg : w.grownBy w' row) (hne : some b ≠ row) : MapI w' b n f := by
  obtain ⟨D, h1, h2⟩ := h
  exact ⟨D, h1.kept hg hne, h2⟩
theorem MapI.lt {w : World} {b n : Nat} {f : Int → Option Int} (h : MapI w b n f) : b < w.heap.size := by obtain ⟨D, h1, _⟩ := h; exact h1.lt
theorem MapI.keep {w w' : World} {b n : Nat} {f : Int → Option Int} (h : MapI w b n f) (hk : w'.heap[b]? = w.heap[b]?) : MapI w' b n f := by
  obtain ⟨D, ⟨es, clock, hb, r⟩, h2⟩ := h
  exact ⟨D, ⟨es, clock, hk.trans hb, r⟩, h2⟩
theorem MapI.look {w : World} {b n : Nat} {f : Int → Option Int} (h : MapI w b n f) {k : Int} (hk : i64ok k) :
    (Instr.lookup 199 (.map (some b)) (.int .i64 k) false).run Tryz.prog w = .ok (.int .i64 ((f k).getD 0)) w := by
  obtain ⟨D, h1, h2⟩ := h
  obtain ⟨c, e1, e2, _⟩ := h1.lookup_int intKeyed Tryz.underlying199 Tryz.underlying3 (intZero w) (keyOf_int_mk Tryz.underlying3 (i64wf hk))
  rw [(h2 k).2] at e2
  simp at e2
  rw [e1, e2]
theorem wpList_mapI {w : World} {ops : Array Oper} {rest : List Oper} {o : Oper} {a : Act} {Q : Exit → Act → World → Prop} (hg : o.guard = none) (m x v : Operand) (hop : o.op = Op.mapUpdate 199 m x v)
    {b n : Nat} {f : Int → Option Int} (hm : a.eval m = .map (some b)) (h : MapI w b n f) (hn : n < 1000000000) {k c : Int} (hx : a.eval x = .int .i64 k) (hv : a.eval v = .int .i64 c) (hk : i64ok k) (hc : i64ok c)
    (hK : ∀ w', MapI w' b (n + 1) (fun j => if j = k then some c else f j) → w.grownBy w' (some b) → wpList Tryz.prog ops Q rest (a.put o.dst undef) w') :
    wpList Tryz.prog ops Q (o :: rest) a w := by
  obtain ⟨D, h1, h2⟩ := h
  refine wpList_mapUpdate_own w hg m x v 199 hop 3 3 intKeyed Tryz.underlying199 (plainElem Tryz.prog 3) b n D hm h1 (by unfold maxLen; omega) _ _ _ hx hv (keyOf_int_mk Tryz.underlying3 (i64wf hk)) _ [] (plainElem_int Tryz.underlying3 (i64wf hc)) ?_
  intro w' h3 h4
  refine hK w' ⟨_, h3, fun j => ?_⟩ h4
  by_cases hj : j = k
  · have e : (fun j => if j = k then some c else f j) j = some c := if_pos hj
    rw [e, hj]
    exact ⟨has_put_same h1.isMap (by trivial) _, atKey_put_same h1.isMap (by trivial) _ _⟩
  · have e : (fun j => if j = k then some c else f j) j = f j := if_neg hj
    have hne : Lit.int IntKind.i64 j ≠ Lit.int .i64 k := by simpa using hj
    rw [e]
    exact ⟨(has_put_other hne _).trans (h2 j).1, (atKey_put_other hne _ _).trans (h2 j).2⟩
end Go.Pch
end
