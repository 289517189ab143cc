/- The walks: Clone; the first chunk; the document's CutOf and SumOf; chunk.Sum. The walks of slices.Delete and slices.Insert at rows, on a slice of the call's own. -/
import Derived.Test.YtdclpbdmdpakkaaGreatLb17
import Derived.Test.YtdclpbdmdpakkaaGreatLb2
section
namespace Go.Pch
open Go.RowKit Go.Proofs

set_option maxHeartbeats 400000 in
theorem cloneRow (v : Value) (l : List Row) (S : Blk) (w : World) (h : Sl tRow w S v l) (hl : l.length ≤ 1000000) :
    Calls Tryz.prog 67 #[v] w (Ret w fun r w' => Sl tRow w' (fun k => w.heap.size ≤ k) r l) := by
  obtain ⟨ao, cap, rfl, hcap, hmax, hnil⟩ := h.shape
  cases ao with
  | none =>
    have h0 := hnil rfl
    obtain rfl : l = [] := List.eq_nil_of_length_eq_zero (by omega)
    subst h0
    have hq := fun W => Lib.run_eql_slice_nil (P := Tryz.prog) W 64 115 none 0 0 0 0 Tryz.underlying64
    go_enter Tryz.func67, Tryz.ntmps67
    go_wp2
    go_ret
    exact ⟨_, rfl, Sl.nil _ _ _, Below.refl _ _⟩
  | some ad =>
    have hq := fun W => Lib.run_eql_slice_nil (P := Tryz.prog) W 64 115 (some ad) l.length cap 0 0 Tryz.underlying64
    have hs := fun W (hW : Below w.heap.size w W) => Src.row (D' := fun _ => False) (h.call hW).src
    go_enter Tryz.func67, Tryz.ntmps67
    go_wp2_with (at_builtin; refine wpList_grow rfl (.tmp 5) (.tmp 6) rfl aRow rfl (Own.made (B := w.heap.size) (C := fun _ => False) _ (Nat.le_refl _)) rfl rfl (hs _ ((Below.refl _ _).alloc (Nat.le_refl _) _)) (by simp) (fun _ h => h.elim) (by simp; omega) (by simp) ?_)
    intro v1 w1 hown hgrow
    go_wp2
    go_ret
    exact ⟨_, rfl, hown.sl (fun _ h => h.elim) (fun _ h => h), ((Below.refl _ _).alloc (Nat.le_refl _) _).grown hgrow (by simp) (by simp [Value.ownBlock])⟩

/-- B1: Cut's answer. -/
def cutL (l : List Row) (n : Int) : List (List Row) × Int := if rowsErr l = 0 then (if levB n then (chunks n l, 0) else ([], 3)) else ([], rowsErr l)
/-- B2: Sum's answer. -/
def sumOfL (l : List Row) : Int × Int := if rowsErr l = 0 then (sumL l, 0) else (0, rowsErr l)




end Go.Pch
end

section
namespace Go.Pch
open Go.RowKit Go.Proofs

theorem zeroRow : ∃ z, (Tryz.prog.info? 115).map (·.zero) = some (some z) ∧ ∀ u ∈ z.cells.toList, u.oneCell' = true :=
  ⟨.agg #[.int .i64 0, .int .i64 0], by kernel_rfl, by intro u hu; simp [Value.cells] at hu; subst hu; rfl⟩

theorem take_all_flat {cur : List Value} {xs : List (List Value)} {n s : Nat} (h : cur.take (n * s) = xs.flatten) (hx : ∀ c ∈ xs, c.length = s) (i : Nat) (hi : i ≤ xs.length) : cur.take (i * s) = (xs.take i).flatten ∧ (xs.length = n → ∀ j v, (xs.drop i).flatten[j]? = some v → cur[i * s + j]? = some v) := by
  have hl : (xs.take i).flatten.length = i * s := by
    rw [flatten_len (sz := s) (xs.take i) (fun c hc => hx c (List.mem_of_mem_take hc)), List.length_take, Nat.min_eq_left hi]
  have hsplit : xs.flatten = (xs.take i).flatten ++ (xs.drop i).flatten := by rw [← List.flatten_append, List.take_append_drop]
  have hle : i * s ≤ n * s := by
    have h1 := congrArg List.length h
    rw [hsplit, List.length_append, hl, List.length_take] at h1
    omega
  refine ⟨?_, fun hn j v hj => ?_⟩
  · have := congrArg (List.take (i * s)) h
    rw [List.take_take, Nat.min_eq_left hle, hsplit, ← hl, List.take_left] at this
    rw [← hl]
    exact this
  · have hj' := (List.getElem?_eq_some_iff.1 hj).1
    have h1 : xs.flatten[i * s + j]? = some v := by rw [hsplit, List.getElem?_append_right (by omega), hl, Nat.add_sub_cancel_left]; exact hj
    rw [← h] at h1
    rw [List.getElem?_take] at h1
    split at h1
    · exact h1
    · cases h1

set_option maxRecDepth 100000 in
set_option maxHeartbeats 1000000 in
theorem deleteRow (v : Value) (l : List Row) (i B : Nat) (C : Blk) (w : World) (h : Own tRow 115 w B C v l) (hi : i < l.length) (hl : l.length ≤ 1000000) :
    Calls Tryz.prog 97 #[v, .int .i64 i, .int .i64 ((i : Int) + 1)] w (fun e w' => ∃ v', e = .returned v' ∧ Own tRow 115 w' B C v' (l.take i ++ l.drop (i + 1)) ∧ w.grownBy w' v.ownBlock ∧ v'.ownBlock = v.ownBlock) := by
  obtain ⟨g, cap, cur, xs, rfl, hBg, hgs, hg, hlc, hcm, hcl, hcx, hE⟩ := h.cells (by omega)
  have hxl : xs.length = l.length := hE.1
  have hxs := hE.lens
  unfold maxLen at hcm
  have hsz : tRow.size = 2 := rfl
  rw [hsz] at hcx hcl hxs
  obtain ⟨c0, c1⟩ := take_all_flat hcx hxs i (by omega)
  obtain ⟨_, c3⟩ := take_all_flat hcx hxs (i + 1) (by omega)
  have hnl : (xs.drop (i + 1)).flatten.length = (l.length - (i + 1)) * 2 := by rw [flatten_len (sz := 2) _ (fun c hc => hxs c (List.mem_of_mem_drop hc)), List.length_drop, hxl]
  have hone : ∀ u ∈ (xs.drop (i + 1)).flatten, u.oneCell' = true := (hE.drop (i + 1)).ones
  obtain ⟨ad, had, hsrc⟩ := cut_src (cap := cap) (lo := i + 1) (s := 2) hg (c3 hxl) (fun e => List.eq_nil_of_length_eq_zero (by omega))
  have hsrc' : ∀ j v, (xs.drop (i + 1)).flatten[j]? = some v → w.drew.cell? (ad.add j) = some v := hsrc
  obtain ⟨u3, q3⟩ := run_cut3 aRow (some ⟨g, 0, none⟩) l.length cap i (i + 1) l.length i ((i : Int) + 1) l.length rfl (by omega) rfl (by omega) (by omega) hlc
  have qT := run_cutTo aRow (some ⟨g, 0, none⟩) l.length cap i (i : Int) rfl (by omega)
  rw [cutAddr_zero] at qT
  have qF := run_cutFrom aRow (some ⟨g, 0, none⟩) l.length cap (i + 1) ((i : Int) + 1) (by omega) (by omega)
  rw [hsz, had] at qF
  obtain ⟨m, hm⟩ : ∃ m, l.length = m + 1 := ⟨l.length - 1, by omega⟩
  have hap := fun ty => run_append_seg (w := w.drew) (c := cap - (i + 1)) aRow (i := i) (cap := cap) (m := l.length - (i + 1)) hg hnl hsrc' (by omega) (by rw [hsz, hnl, hcl]; omega) hone ty
  rw [hsz, show i + (l.length - (i + 1)) = m by omega] at hap
  have hcur1 := seg_len (cur := cur) (cs := (xs.drop (i + 1)).flatten) (o := i * 2) (by rw [hnl, hcl]; omega)
  have hsg : (seg cur (i * 2) (xs.drop (i + 1)).flatten).take (m * 2) = (xs.take i ++ xs.drop (i + 1)).flatten := by
    rw [seg, c0, List.flatten_append]
    have e : ((xs.take i).flatten ++ (xs.drop (i + 1)).flatten).length = m * 2 := by
      rw [List.length_append, hnl, flatten_len (sz := 2) _ (fun c hc => hxs c (List.mem_of_mem_take hc)), List.length_take, Nat.min_eq_left (by omega)]
      omega
    rw [← e, List.take_left]
  generalize seg cur (i * 2) (xs.drop (i + 1)).flatten = cur1 at hap hcur1 hsg
  rw [hcl] at hcur1
  have hg1 : (w.drew.setRow g cur1.toArray).heap[g]? = some (.cells cur1.toArray 115) := setRow_heap w.drew g _ _ _ _ hg
  obtain ⟨zs, hzl, hzr⟩ := run_clear_seg (o := m * 2) (n := 1) (c := cap - m) aRow hg1 (by omega) (by rw [hsz, hcur1]; omega) zeroRow
  rw [hsz] at hzl
  have hsl := seg_len (cur := cur1) (cs := zs) (o := m * 2) (by omega)
  have hst : (seg cur1 (m * 2) zs).take (m * 2) = (xs.take i ++ xs.drop (i + 1)).flatten := by
    rw [← hsg, seg_take zs (by omega)]
  generalize seg cur1 (m * 2) zs = cur2 at hzr hsl hst
  have q6 := run_cut aRow (some ⟨g, 0, none⟩) m cap m l.length (m : Int) (l.length : Int) rfl rfl (by omega) hlc
  rw [cutAddr_on (by omega), show l.length - m = 1 by omega, hsz, Nat.zero_add] at q6
  have hw1 : IntKind.i64.wrap ((i : Int) + 1) = (i : Int) + 1 := by rw [IntKind.wrap_i64]; omega
  have hne : ((i : Int) == (i : Int) + 1) = false := by simp; omega
  obtain ⟨W1, hW1⟩ : ∃ W1, W1 = w.drew.setRow g cur1.toArray := ⟨_, rfl⟩
  rw [← hW1] at hap hzr
  have FIN : Hid (Own tRow 115 (W1.setRow g cur2.toArray) B C (.slice (some ⟨g, 0, none⟩) m cap) (l.take i ++ l.drop (i + 1)) ∧ w.grownBy (W1.setRow g cur2.toArray) (some g)) := keepBack (by
    have hgr : w.grownBy (W1.setRow g cur2.toArray) (some g) := by
      rw [hW1, setRow_setRow]
      exact ⟨rfl, rfl, rfl, by rw [setRow_size]; exact Nat.le_refl _, fun k _ hk => setRow_other w.drew g k _ (fun e => hk (by rw [e]))⟩
    refine ⟨?_, hgr⟩
    have hll : (l.take i ++ l.drop (i + 1)).length = m := by simp; omega
    have hE2 : Each tRow (W1.setRow g cur2.toArray) (fun k => C k ∧ k ≠ g) (xs.take i ++ xs.drop (i + 1)) (l.take i ++ l.drop (i + 1)) :=
      ((hE.take i).app (hE.drop (i + 1))).keep fun k hk hlt => hgr.block k hlt (fun e => hk.2 (Option.some.inj e))
    have := Own.of_cells (B := B) (C := C) (cap := cap) hBg (setRow_heap W1 g _ _ _ _ (by rw [hW1]; exact hg1)) (by omega) (by unfold maxLen; omega) (by rw [hsl, hcur1, hsz]) (by rw [hll, hsz]; exact hst) hE2
    rwa [hll] at this)
  have hmi : ((m : Nat) : Int) ≤ (l.length : Int) := by omega
  clear hW1 hg1 hst hsl hsg hcur1 hsrc hsrc' hone hnl c0 c3 c1 hE hxs hcx hxl hg hcl had h hzl hm
  go_enter Tryz.func97, Tryz.ntmps97
  go_wp2
  go_region_law (refine step_append_is rfl (.tmp 22) (.tmp 25) 64 64 rfl _ _ (by simp [Go.Act.eval, Go.Act.put]) (by simp [Go.Act.eval, Go.Act.put]) (hap _) ?_)
  go_wp2_with (at_builtin; refine wpList_clear_is rfl _ 64 rfl _ rfl (hzr _) ?_)
  go_ret
  exact ⟨_, rfl, FIN.out.1, FIN.out.2, rfl⟩

end Go.Pch
end
