/- The walks of rows.Put, and of what the document says of Find and Put: valueOf, spread, folded. The walks of rows.Put, and of the document's FindOf and PutOf. -/
import Derived.Test.YtdclpbdmdpakkaaWa21
import Derived.Laws.Rows
import Derived.Laws.Tables
section
namespace Go.Pch
open Go.RowKit Go.Proofs

/-- A table's cells. -/
def tabL (x : Int → Int) : List Value := (List.range 100).map fun (k : Nat) => .int .i64 (x (k : Int))
theorem tabL_len (x : Int → Int) : (tabL x).length = 100 := by simp [tabL]
theorem tabL_get (x : Int → Int) (k : Nat) (h : k < 100) : (tabL x)[k]? = some (.int .i64 (x (k : Int))) := by simp [tabL, h]

theorem refValueOf (v : Value) (l : List Row) (key : Int) (S : Blk) (w : World) (h : Sl tRow w S v l) :
    Calls Try.prog 97 #[v, .int .i64 key] w (fun e w' => e = .returned (.int .i64 (valueOf l key)) ∧ w = w') := by
  have hv := h.old
  obtain ⟨ao, cap, rfl, hcap, hmax, hnil⟩ := h.shape
  unfold maxLen at hmax
  go_enter Try.func97, Try.ntmps97
  go_wp2
  go_loop [5] (fun i => ∃ j : Nat, j ≤ l.length ∧ i = .int .i64 j ∧ Hid (valueOf l key = valueOf (l.drop j) key)) (fun i => l.length - (intOf i).toNat)
  case atStart => exact ⟨0, Nat.zero_le _, rfl, rfl⟩
  case round =>
    obtain ⟨j, hj, rfl, HV⟩ := hrel
    by_cases hlt : j < l.length
    · obtain ⟨b, o, hix, _, hbs, ok1, ok2, hc0, hc1⟩ := hv.idxRow aRow j j rfl hlt
      have HD := keepBack (List.drop_eq_getElem_cons hlt)
      generalize l[j] = r at *
      by_cases hk : r.1 = key
      · have HK : Hid (valueOf l key = r.2) := keepBack (by rw [HV.out, HD.out, valueOf, if_pos hk])
        have hq : (r.1 == key) = true := by simp [hk]
        clear hk
        go_wp2
        go_ret
        exact ⟨by rw [HK.out]; rfl, rfl⟩
      · have HK : Hid (valueOf l key = valueOf (l.drop (j + 1)) key) := keepBack (by rw [HV.out, HD.out, valueOf, if_neg hk])
        have hq : (r.1 == key) = false := by simp [hk]
        clear hk
        go_wp2
        go_round
        case rel => exact ⟨j + 1, by omega, by go_num, HK⟩
        case measure => simp [intOf]; omega
    · have HK : Hid (valueOf l key = -1) := keepBack (by rw [HV.out, List.drop_of_length_le (by omega)]; rfl)
      go_wp2
      go_ret
      exact ⟨by rw [HK.out]; rfl, rfl⟩

theorem tab_same {x y : Int → Int} (h : ∀ k : Int, 0 ≤ k → k < 100 → x k = y k) : tabL x = tabL y := by
  unfold tabL
  refine List.map_congr_left fun k hk => ?_
  rw [h k (by omega) (by have := List.mem_range.1 hk; omega)]
theorem tab_set (x : Int → Int) (i : Nat) (v : Int) (hi : i < 100) : (tabL x).toArray.setIfInBounds i (.int .i64 v) = (tabL fun k => if k = i then v else x k).toArray := by
  apply Array.ext'
  rw [Array.toList_setIfInBounds]
  change (tabL x).set i (.int .i64 v) = tabL (fun k => if k = (i : Int) then v else x k)
  apply List.ext_getElem?
  intro j
  by_cases hj : j < 100
  · rw [List.getElem?_set]
    by_cases h : i = j
    · subst h
      rw [if_pos rfl, if_pos (by rw [tabL_len]; exact hi), tabL_get _ i hj, if_pos rfl]
    · rw [if_neg h, tabL_get _ j hj, tabL_get _ j hj, if_neg (by omega)]
  · rw [List.getElem?_eq_none (by rw [List.length_set, tabL_len]; omega), List.getElem?_eq_none (by rw [tabL_len]; omega)]
theorem tab_ones (x : Int → Int) : (tabL x).toArray.all (·.oneCell') = true := by
  rw [Array.all_eq_true_iff_forall_mem]
  intro u hu
  simp [tabL] at hu
  obtain ⟨k, _, rfl⟩ := hu
  rfl
theorem tabSize : (Try.prog.info? 119).map (·.size) = some 100 := by kernel_rfl
theorem tabSize' (x : Int → Int) : (Try.prog.info? 119).map (·.size) = some (tabL x).toArray.size := by rw [tabSize]; simp [tabL_len]

/-- A table lies in a block. -/
def TabAt (w : World) (g : Nat) (x : Int → Int) : Prop := w.heap[g]? = some (.cells (tabL x).toArray 119)
theorem TabAt.cell {w : World} {g : Nat} {x : Int → Int} (h : TabAt w g x) (k : Nat) (hk : k < 100) : w.cell? ⟨g, k, none⟩ = some (.int .i64 (x k)) := by
  rw [World.cell?, h]
  simpa using tabL_get x k hk
theorem TabAt.free {w : World} {g : Nat} {x : Int → Int} (h : TabAt w g x) (k : Nat) : w.frozen? ⟨g, k, none⟩ = false := frozen_plain' h
theorem TabAt.lt {w : World} {g : Nat} {x : Int → Int} (h : TabAt w g x) : g < w.heap.size := (Array.getElem?_eq_some_iff.1 h).1
theorem TabAt.set {w : World} {g : Nat} {x : Int → Int} (h : TabAt w g x) (k : Nat) (hk : k < 100) (v : Int) : TabAt (w.setCell ⟨g, k, none⟩ (.int .i64 v)) g (fun j => if j = k then v else x j) := by
  unfold TabAt
  rw [← tab_set x k v hk]
  exact heap_setCell_same w g k _ _ _ h
theorem TabAt.other {w : World} {g : Nat} {x : Int → Int} (h : TabAt w g x) (a : Addr) (v : Value) (ha : g ≠ a.block) : TabAt (w.setCell a v) g x := (heap_setCell_other w a g v ha).trans h
theorem TabAt.same {w : World} {g : Nat} {x y : Int → Int} (h : TabAt w g x) (e : ∀ k : Int, 0 ≤ k → k < 100 → x k = y k) : TabAt w g y := by unfold TabAt; rw [← tab_same e]; exact h

set_option maxRecDepth 100000 in
set_option maxHeartbeats 1000000 in
theorem refSpread (v : Value) (l : List Row) (S : Blk) (w : World) (h : Sl tRow w S v l) :
    Calls Try.prog 71 #[v] w (Ret w fun r _ => r = .agg (tabL (valueOf l)).toArray) := by
  go_enter Try.func71, Try.ntmps71
  go_wp2_with fail
  go_loopw [4] (fun i wr => ∃ k : Nat, k ≤ 100 ∧ i = .int .i64 k ∧ Below w.heap.size w wr ∧ Hid (TabAt wr w.heap.size (fun _ => 0)) ∧ TabAt wr (w.heap.size + 1) (fun j => if j < k then valueOf l j else 0)) (fun i _ => 100 - (intOf i).toNat)
  case atStart =>
    refine ⟨0, by omega, rfl, ((Below.refl _ _).alloc (Nat.le_refl _) _).alloc (by simp) _, ?_, ?_⟩
    · exact (heap_alloc2_old w _ _).trans rfl
    · refine TabAt.same (x := fun _ => 0) ((heap_alloc2_new w _ _).trans rfl) fun k h0 h1 => ?_
      rw [if_neg (by simpa using h0)]
  case round =>
    obtain ⟨k, hk, rfl, hb, HT, ht⟩ := hrel
    have hs := hb.size
    by_cases hlt : k < 100
    · have hc := ht.cell k hlt
      have hf := ht.free k
      have HTT := keepBack ht
      clear ht
      go_wp2_with fail
      refine (refValueOf v l k S wr (h.call hb)).mono ?_; rintro e w' ⟨rfl, rfl⟩
      go_wp2
      go_roundw
      case rel =>
        refine ⟨k + 1, by omega, by go_num, hb.setCell (by simp) _, HT.out.other _ _ (by simp), ?_⟩
        refine (HTT.out.set k hlt (valueOf l k)).same fun j h0 h1 => ?_
        by_cases hj : j = k
        · rw [if_pos hj, if_pos (by omega), hj]
        · rw [if_neg hj]
          by_cases hjk : j < k
          · rw [if_pos hjk, if_pos (by omega)]
          · rw [if_neg hjk, if_neg (by omega)]
      case measure => simp [intOf]; omega
    · obtain rfl : k = 100 := by omega
      have ht' := ht.same (y := valueOf l) fun j h0 h1 => by
        show (if j < ((100 : Nat) : Int) then _ else _) = _
        rw [if_pos (by omega)]
      have hlt2 := ht'.lt
      have HTT := keepBack ht'
      have HSZ := keepBack (tabSize' (valueOf l))
      have HONE := keepBack (tab_ones (valueOf l))
      have hg1 : (wr.setRow w.heap.size (tabL (valueOf l)).toArray).heap[w.heap.size]? = some (.cells (tabL (valueOf l)).toArray 119) := setRow_heap wr _ _ _ _ _ HT.out
      have HG := keepBack hg1
      have HB := keepBack (show Below w.heap.size w (wr.setRow w.heap.size (tabL (valueOf l)).toArray) from below_setRow hb (Nat.le_refl _) _)
      have HLN := keepBack (show (tabL fun _ => 0).toArray.size = (tabL (valueOf l)).toArray.size by simp [tabL_len])
      clear ht ht' hg1 hk
      unfold TabAt at HT HTT
      obtain ⟨A, hA⟩ : ∃ A, A = (tabL (valueOf l)).toArray := ⟨_, rfl⟩
      rw [← hA] at HSZ HONE HG HB HLN HTT
      have HA := keepBack hA
      clear hA
      go_wp2_with (first
        | (refine wpList_load_row rfl 119 (.tmp 3) rfl (w.heap.size + 1) rfl _ _ _ _ HTT.out Try.underlying119 rfl HSZ.out ?_)
        | (refine wpList_store_row rfl 119 (.tmp 2) (.tmp 14) rfl w.heap.size A rfl rfl _ _ HT.out HSZ.out HLN.out HONE.out ?_))
      exact bodyPost_ret (v := .agg A) (results_cell_row rfl _ _ _ _ _ _ _ rfl HG.out Try.underlying119 rfl HSZ.out) rfl ⟨_, rfl, by rw [HA.out], HB.out⟩

/-- The value of a table's array. -/
abbrev tabV (x : Int → Int) : Value := .agg (tabL x).toArray

set_option maxRecDepth 100000 in
set_option maxHeartbeats 1000000 in
theorem refFolded (x : Int → Int) (w : World) (hx : ∀ k, -1 ≤ x k ∧ x k ≤ 996) :
    Calls Try.prog 72 #[tabV x] w (Ret w fun r w' => Sl tRow w' (fun k => w.heap.size ≤ k) r (folded x)) := by
  have HX := keepBack hx
  clear hx
  unfold tabV
  obtain ⟨A, hA⟩ : ∃ A, A = (tabL x).toArray := ⟨_, rfl⟩
  rw [← hA]
  have HA := keepBack hA
  clear hA
  go_enter Try.func72, Try.ntmps72
  go_wp2_with fail
  go_loopw [3, 4] (fun out i wr => ∃ (k : Nat) (acc : List Row), k ≤ 100 ∧ i = .int .i64 k ∧ Below w.heap.size w wr ∧ TabAt wr w.heap.size x ∧ Own tRow 88 wr (w.heap.size + 1) (fun _ => False) out acc ∧ acc.length ≤ k ∧ Hid (folded x = acc ++ foldFrom x (100 - k) k)) (fun _ i _ => 100 - (intOf i).toNat)
  case atStart => exact ⟨0, [], by omega, rfl, (Below.refl _ _).alloc (Nat.le_refl _) _, by unfold TabAt; rw [← HA.out]; exact heap_alloc_new w _, .nil, Nat.zero_le _, rfl⟩
  case round =>
    obtain ⟨k, acc, hk, rfl, hb, ht, ho, hal, HF⟩ := hrel
    have hs := hb.size
    have hlt0 := ht.lt
    by_cases hlt : k < 100
    · have hc := ht.cell k hlt
      have hxk := HX.out (k : Int)
      have hstep : foldFrom x (100 - k) k = if x k = -1 then foldFrom x (100 - (k + 1)) ((k : Int) + 1) else ((k : Int), x k) :: foldFrom x (100 - (k + 1)) ((k : Int) + 1) := by
        rw [show 100 - k = (100 - (k + 1)) + 1 by omega, foldFrom]
      have HS := keepBack hstep
      clear hstep
      have HTT := keepBack ht
      clear ht
      by_cases hn : x k = -1
      · have HF2 : Hid (folded x = acc ++ foldFrom x (100 - (k + 1)) ((k + 1 : Nat) : Int)) := keepBack (by rw [HF.out, HS.out, if_pos hn]; simp)
        have hq : (x (k : Int) != -1) = false := by simp [hn]
        clear hn hxk
        generalize x (k : Int) = xk at *
        go_wp2
        go_roundw
        case rel => exact ⟨k + 1, acc, by omega, by go_num, hb, HTT.out, ho, by omega, HF2⟩
        case measure => simp [intOf]; omega
      · have HF2 : Hid (folded x = (acc ++ [((k : Int), x k)]) ++ foldFrom x (100 - (k + 1)) ((k + 1 : Nat) : Int)) := keepBack (by rw [HF.out, HS.out, if_neg hn]; simp)
        have hq : (x (k : Int) != -1) = true := by simp [hn]
        have ok : i64ok (k : Int) ∧ i64ok (x k) := ⟨ok_small (by omega), ok_small (by omega)⟩
        clear hn
        generalize x (k : Int) = xk at *
        obtain ⟨ao, cp, rfl, _, _⟩ := ho.shape
        have hob := ho.block
        go_wp2_with (at_builtin; refine wpList_grow rfl (.tmp 13) (.tmp 19) rfl aRow rfl (ho.alloc _) rfl (by simp) (Src.one (cs := [_, _]) (tRow_mk wr (fun _ => False) (k : Int) xk ok.1 ok.2) _) (by simp) (fun _ h => h.elim) (by simp; omega) (by simp; omega) ?_)
        intro v2 w2 ho2 hg2
        have hb2 : Below (w.heap.size + 1) wr w2 := ((Below.refl _ _).alloc (by omega) _).grown hg2 (by simp; omega) (fun g hg => (hob g hg).1)
        go_wp2
        go_roundw
        case rel => exact ⟨k + 1, _, by omega, by go_num, hb.trans (hb2.mono (by omega)), (hb2.block _ (by omega)).trans HTT.out, ho2, by simp; omega, HF2⟩
        case measure => simp [intOf]; omega
    · obtain rfl : k = 100 := by omega
      have HF2 : Hid (folded x = acc) := keepBack (by rw [HF.out, show 100 - 100 = 0 from rfl, foldFrom, List.append_nil])
      clear ht
      go_wp2
      go_ret
      exact ⟨_, rfl, by rw [HF2.out]; exact ho.sl (fun _ h => h.elim) (fun k (hk : w.heap.size + 1 ≤ k) => by omega), hb⟩

end Go.Pch
end

section
namespace Go.Pch
open Go.RowKit Go.Proofs


theorem putP_bad1 {l : List Row} {key val : Int} (he : rowsErr l = 0) (hk : keyB key = false) : putP l key val = ([], 3) := by rw [putP, if_pos he, if_neg (by simp [hk])]
theorem putP_bad2 {l : List Row} {key val : Int} (he : rowsErr l = 0) (hv : valB val = false) : putP l key val = ([], 3) := by rw [putP, if_pos he, if_neg (by simp [hv])]
theorem putP_many {l : List Row} {key val : Int} (he : rowsErr l = 0) (hk : keyB key = true) (hv : valB val = true) (hm : 40 < (putL l key val).length) : putP l key val = ([], 2) := by rw [putP, if_pos he, if_pos (by simp [hk, hv]), if_pos hm]
theorem putP_ok {l : List Row} {key val : Int} (he : rowsErr l = 0) (hk : keyB key = true) (hv : valB val = true) (hm : ¬ 40 < (putL l key val).length) : putP l key val = (putL l key val, 0) := by rw [putP, if_pos he, if_pos (by simp [hk, hv]), if_neg hm]



end Go.Pch
end
