/- The walks of slices.Reverse and slices.Clone at levels: a row of slices in an own block, turned round in place. The walks of diff.Fine, and of the document's ChangesFine and SameChanges. Plain words on patches that are fine; no program is named here. The walks of rows.Set and rows.Put. -/
import Derived.Test.YtjjkdpjjaijmbaaGreatRg16
import Derived.Test.YtjjkdpjjaijmbaaGreatRg4
import Derived.Laws.Rows
import Derived.IntWalk
import Derived.Test.YtjjkdpjjaijmbaaGreatRg15
import Derived.Test.YtjjkdpjjaijmbaaGreatRg10
import Derived.Test.YtjjkdpjjaijmbaaGreatRg17
section
namespace Go.Pch
open Go.RowKit Go.Proofs
set_option maxRecDepth 100000

theorem grown_setCell (A : World) (a : Addr) (v : Value) : A.grownBy (A.setCell a v) (some a.block) :=
  ⟨rfl, rfl, rfl, by simp, fun k _ hk => Below.heap_setCell _ _ _ _ (by intro e; exact hk (by rw [e]))⟩

/-- Which cell comes to p, when i of n cells at both ends (from o on) have been swapped. -/
def sg (o n i p : Nat) : Nat := if (o ≤ p ∧ p < o + i) ∨ (o + n ≤ p + i ∧ p < o + n) then 2 * o + n - 1 - p else p
structure Swapped (cur cs : List Value) (o n i : Nat) : Prop where
  len : cs.length = cur.length
  get : ∀ p, p < cur.length → cs[p]? = cur[sg o n i p]?
theorem Swapped.refl (cur : List Value) (o n : Nat) : Swapped cur cur o n 0 :=
  ⟨rfl, fun p _ => by rw [sg, if_neg (by omega)]⟩
theorem Swapped.step {cur cs : List Value} {o n i j : Nat} (h : Swapped cur cs o n i) (hj : j = n - 1 - i) (hij : i < j) (hn : o + n ≤ cur.length) {a b : Value} (ha : cs[o + i]? = some a) (hb : cs[o + j]? = some b) :
    Swapped cur ((cs.set (o + i) b).set (o + j) a) o n (i + 1) := by
  refine ⟨by rw [List.length_set, List.length_set, h.len], fun p hp => ?_⟩
  have hl := h.len
  by_cases h1 : p = o + j
  · subst h1
    rw [List.getElem?_set_self (by rw [List.length_set]; omega), ← ha, h.get _ (by omega)]
    congr 1
    rw [sg, if_neg (by omega), sg, if_pos (by omega)]
    omega
  · rw [List.getElem?_set_ne (by omega)]
    by_cases h2 : p = o + i
    · subst h2
      rw [List.getElem?_set_self (by omega), ← hb, h.get _ (by omega)]
      congr 1
      rw [sg, if_neg (by omega), sg, if_pos (by omega)]
      omega
    · rw [List.getElem?_set_ne (by omega), h.get p hp]
      congr 1
      unfold sg
      by_cases h3 : (o ≤ p ∧ p < o + i) ∨ (o + n ≤ p + i ∧ p < o + n)
      · rw [if_pos h3, if_pos (by omega)]
      · rw [if_neg h3, if_neg (by omega)]
theorem cells_cell {w : World} {g p : Nat} {cs : List Value} {t : TypeId} (hg : w.heap[g]? = some (.cells cs.toArray t)) {v : Value} (hv : cs[p]? = some v) : w.cell? ⟨g, p, none⟩ = some v := by
  rw [World.cell?, hg]
  simpa using hv



/-- A level in a row of slices that the call itself may turn round: nil, or a piece of an own block (behind B); its chunks lie below B. -/
def LvV (w : World) (B : Nat) (v : Value) (l : List (List Row)) : Prop :=
  (v = .slice none 0 0 ∧ l = []) ∨
  ∃ g o cap cur t, v = .slice (some ⟨g, o, none⟩) l.length cap ∧ B ≤ g ∧ w.heap[g]? = some (.cells (cur : List Value).toArray t) ∧ l.length ≤ cap ∧ cap ≤ maxLen ∧ o + cap ≤ cur.length ∧
    ∀ i c, l[i]? = some c → ∃ u, cur[o + i]? = some u ∧ Sl tRow w (fun k => k < B) u c
theorem LvV.sl {w : World} {B : Nat} {v : Value} {l : List (List Row)} (h : LvV w B v l) : Sl tRow.slice w (fun _ => True) v l := by
  rcases h with ⟨rfl, rfl⟩ | ⟨g, o, cap, cur, t, rfl, hB, hg, h1, h2, h3, h4⟩
  · exact Sl.nil _ _ _
  · refine ⟨some ⟨g, o, none⟩, l.length, cap, rfl, rfl, h1, h2, by simp, fun i c hi => ⟨g, o, rfl, trivial, ?_⟩⟩
    obtain ⟨u, hu, hs⟩ := h4 i c hi
    refine ⟨[u], hs.mono (fun _ _ _ => trivial), fun j x hj => ?_⟩
    match j, hj with
    | 0, hj =>
      obtain rfl : u = x := by simpa using hj
      have es : tRow.slice.size = 1 := rfl
      rw [es, Nat.mul_one, Nat.add_zero]
      exact ⟨cells_cell hg hu, frozen_of_row w g _ _ _ hg⟩
    | j + 1, hj => simp at hj
theorem LvV.keep {w w' : World} {B : Nat} {v : Value} {l : List (List Row)} (h : LvV w B v l) (hk : ∀ k, (k < B ∨ v.ownBlock = some k) → k < w.heap.size → w'.heap[k]? = w.heap[k]?) : LvV w' B v l := by
  rcases h with h | ⟨g, o, cap, cur, t, rfl, hB', hg, h1, h2, h3, h4⟩
  · exact .inl h
  · refine .inr ⟨g, o, cap, cur, t, rfl, hB', (hk g (.inr rfl) (Array.getElem?_eq_some_iff.1 hg).1).trans hg, h1, h2, h3, fun i c hi => ?_⟩
    obtain ⟨u, hu, hs⟩ := h4 i c hi
    exact ⟨u, hu, hs.keep fun k hk1 hk2 => hk k (.inl hk1) hk2⟩
theorem LvV.call {w w' : World} {B : Nat} {v : Value} {l : List (List Row)} (h : LvV w B v l) (hb : Below w.heap.size w w') : LvV w' B v l := h.keep fun k _ hk => hb.block k hk
theorem LvV.other {w w' : World} {B : Nat} {v u : Value} {l : List (List Row)} (h : LvV w B v l) (hg : w.grownBy w' u.ownBlock) (hne : ∀ g, u.ownBlock = some g → B ≤ g ∧ v.ownBlock ≠ some g) : LvV w' B v l :=
  h.keep fun k hk hlt => hg.block k hlt fun e => by
    obtain ⟨h1, h2⟩ := hne k e.symm
    rcases hk with hk | hk
    · omega
    · exact h2 hk
theorem LvV.block {w : World} {B : Nat} {v : Value} {l : List (List Row)} (h : LvV w B v l) : ∀ g, v.ownBlock = some g → B ≤ g ∧ g < w.heap.size := by
  rcases h with ⟨rfl, rfl⟩ | ⟨g, o, cap, cur, t, rfl, hB', hg, h1, h2, h3, h4⟩
  · intro g hg; simp [Value.ownBlock] at hg
  · intro g' hg'
    obtain rfl : g = g' := by simpa [Value.ownBlock] using hg'
    exact ⟨hB', (Array.getElem?_eq_some_iff.1 hg).1⟩
theorem LvV.cutFrom {w : World} {B : Nat} {v : Value} {l : List (List Row)} (h : LvV w B v l) (a : Int) (lo : Nat) (ha : a = lo) (hlo : lo ≤ l.length) :
    ∃ v', (∀ W, Sem.run Tryz.prog (Instr.sliceAt 47 v (some (.int .i64 a)) none none) W = .ok v' W) ∧ (∀ W, Sem.run Tryz.prog (Instr.slice 47 v (some (.int .i64 a)) none none) W = .ok v' W) ∧ LvV w B v' (l.drop lo) ∧ v'.ownBlock = v.ownBlock ∧
      ∃ ao c, v' = .slice ao (l.length - lo) c := by
  rcases h with ⟨rfl, rfl⟩ | ⟨g, o, cap, cur, t, rfl, hB', hg, h1, h2, h3, h4⟩
  · obtain rfl : lo = 0 := by simpa using hlo
    exact ⟨_, fun W => (run_at aLev _ _ _ _ W).trans (run_cutFrom aLev none 0 0 0 a ha (by omega) W), fun W => run_cutFrom aLev none 0 0 0 a ha (by omega) W, .inl ⟨rfl, rfl⟩, rfl, _, _, rfl⟩
  · refine ⟨_, fun W => (run_at aLev _ _ _ _ W).trans (run_cutFrom aLev _ _ _ lo a ha hlo W), fun W => run_cutFrom aLev _ _ _ lo a ha hlo W, ?_, ?_, _, _, rfl⟩
    · by_cases hc : cap = lo
      · subst hc
        refine .inr ⟨g, o, 0, cur, t, ?_, hB', hg, by simp; omega, Nat.zero_le _, by omega, fun i c hi => ?_⟩
        · rw [cutAddr, if_pos rfl, List.length_drop, Nat.sub_self]
        · rw [List.getElem?_drop] at hi
          have := (List.getElem?_eq_some_iff.1 hi).1
          omega
      · refine .inr ⟨g, o + lo, cap - lo, cur, t, ?_, hB', hg, by simp; omega, by omega, by omega, fun i c hi => ?_⟩
        · rw [cutAddr_on hc, List.length_drop, show lo * tRow.slice.size = lo from Nat.mul_one lo]
        · rw [List.getElem?_drop] at hi
          obtain ⟨u, hu, hs⟩ := h4 _ c hi
          exact ⟨u, by rw [Nat.add_assoc]; exact hu, hs⟩
    · unfold cutAddr
      split
      · rfl
      · simp only [Option.map_some, Value.ownBlock, Addr.add]
        split <;> rfl
theorem LvV.of_own {w : World} {B B' : Nat} {v : Value} {l : List (List Row)} {e : TypeId} (h : Own tRow.slice e w B' (fun k => k < B) v l) (hBB : B ≤ B') : LvV w B v l := by
  obtain ⟨xs, ⟨h1, h2⟩, hE⟩ := h
  rcases h2 with ⟨rfl, h0⟩ | ⟨g, cap, cur, rfl, hb, hg, hlc, hcm, hcs, hct⟩
  · exact .inl ⟨rfl, List.eq_nil_of_length_eq_zero h0⟩
  · refine .inr ⟨g, 0, cap, cur.toList, e, rfl, Nat.le_trans hBB hb, by simpa using hg, hlc, hcm, ?_, fun i c hi => ?_⟩
    · have es : tRow.slice.size = 1 := rfl
      rw [es, Nat.mul_one] at hcs
      simp [hcs]
    · have hil := (List.getElem?_eq_some_iff.1 hi).1
      obtain ⟨cs, hcs'⟩ : ∃ cs, xs[i]? = some cs := ⟨xs[i]'(by rw [hE.1]; exact hil), List.getElem?_eq_getElem _⟩
      have hrd := hE.2 i cs c hcs' hi
      have hlen : cs.length = 1 := tRow.slice.len hrd
      obtain ⟨u, rfl⟩ : ∃ u, cs = [u] := by
        match cs, hlen with
        | [u], _ => exact ⟨u, rfl⟩
      refine ⟨u, ?_, (show Sl tRow w _ u c from hrd).mono fun k hk _ => hk.1⟩
      have hf := flatten_get (sz := 1) (by omega) xs (fun c hc => hE.lens c hc) i
      rw [Nat.div_one, hcs', Nat.mod_one] at hf
      rw [Nat.zero_add]
      have : (cur.toList.take (l.length * tRow.slice.size))[i]? = some u := by rw [hct, hf]; rfl
      rwa [List.getElem?_take_of_lt (by have es : tRow.slice.size = 1 := rfl; rw [es]; omega)] at this


end Go.Pch
end

section
namespace Go.Pch
open Go.RowKit Go.Proofs
set_option maxRecDepth 100000

set_option maxHeartbeats 4000000 in
theorem diffFine (v : Value) (l : List Change) (S : Blk) (w : World) (h : Sl tChange w S v l) :
    Calls Tryz.prog 42 #[v] w (Ret w fun r _ => r = .bool (fineC (-1) l)) := by
  obtain ⟨ao, cap, rfl, hcap, hmax, hnil⟩ := h.shape
  unfold maxLen at hmax
  go_enter Tryz.func42, Tryz.ntmps42
  go_wp2_with fail
  go_loopw [3, 8] (fun last i wr => ∃ (k : Nat) (m : Int), k ≤ l.length ∧ i = .int .i64 k ∧ last = .int .i64 m ∧ Below w.heap.size w wr ∧ Hid (fineC (-1) l = fineC m (l.drop k))) (fun _ i _ => l.length - (intOf i).toNat)
  case atStart => exact ⟨0, -1, Nat.zero_le _, rfl, rfl, Below.refl _ _, rfl⟩
  case round =>
    obtain ⟨k, m, hk, rfl, rfl, hb, hr⟩ := hrel
    by_cases hlt : k < l.length
    · obtain ⟨b, o, hix, _, hbs, ok1, ok2, ok3, hc0, hc1, hc2⟩ := (h.call hb).idxChg aChg k k rfl hlt
      clear hnil
      by_cases q1 : l[k].1 ≤ m
      · have H : Hid (l[k].1 ≤ m ∨ 99 < l[k].1 ∨ valB l[k].2.1 = false ∨ valB l[k].2.2 = false ∨ l[k].2.1 = l[k].2.2) := keepBack (.inl q1)
        have b1 : decide (l[k].1 ≤ m) = true := by simpa using q1
        clear q1
        go_wp2
        go_ret
        exact ⟨_, rfl, by rw [hr.out, fineC_stop hlt H.out]; rfl, hb.alloc hb.size _⟩
      · have b1 : decide (l[k].1 ≤ m) = false := by simpa using q1
        have Q1 := keepBack q1
        clear q1
        by_cases q2 : 99 < l[k].1
        · have H : Hid (l[k].1 ≤ m ∨ 99 < l[k].1 ∨ valB l[k].2.1 = false ∨ valB l[k].2.2 = false ∨ l[k].2.1 = l[k].2.2) := keepBack (.inr (.inl q2))
          have b2 : decide (99 < l[k].1) = true := by simpa using q2
          clear q2
          go_wp2
          go_ret
          exact ⟨_, rfl, by rw [hr.out, fineC_stop hlt H.out]; rfl, hb.alloc hb.size _⟩
        · have b2 : decide (99 < l[k].1) = false := by simpa using q2
          have Q2 := keepBack q2
          clear q2
          cases hv1 : valB l[k].2.1 with
          | false =>
            have H : Hid (l[k].1 ≤ m ∨ 99 < l[k].1 ∨ valB l[k].2.1 = false ∨ valB l[k].2.2 = false ∨ l[k].2.1 = l[k].2.2) := keepBack (.inr (.inr (.inl hv1)))
            go_wp2_with (go_at_call 73; refine (rowsVal_of _ _ hv1).mono ?_; rintro e w' ⟨rfl, rfl⟩)
            go_ret
            exact ⟨_, rfl, by rw [hr.out, fineC_stop hlt H.out]; rfl, hb.alloc hb.size _⟩
          | true =>
            cases hv2 : valB l[k].2.2 with
            | false =>
              have H : Hid (l[k].1 ≤ m ∨ 99 < l[k].1 ∨ valB l[k].2.1 = false ∨ valB l[k].2.2 = false ∨ l[k].2.1 = l[k].2.2) := keepBack (.inr (.inr (.inr (.inl hv2))))
              go_wp2_with (first | (go_at_call 73; refine (rowsVal_of _ _ hv1).mono ?_; rintro e w' ⟨rfl, rfl⟩) | (go_at_call 73; refine (rowsVal_of _ _ hv2).mono ?_; rintro e w' ⟨rfl, rfl⟩))
              go_ret
              exact ⟨_, rfl, by rw [hr.out, fineC_stop hlt H.out]; rfl, hb.alloc hb.size _⟩
            | true =>
              by_cases q3 : l[k].2.1 = l[k].2.2
              · have H : Hid (l[k].1 ≤ m ∨ 99 < l[k].1 ∨ valB l[k].2.1 = false ∨ valB l[k].2.2 = false ∨ l[k].2.1 = l[k].2.2) := keepBack (.inr (.inr (.inr (.inr q3))))
                have b3 : (l[k].2.1 == l[k].2.2) = true := by simpa using q3
                clear q3
                go_wp2_with (first | (go_at_call 73; refine (rowsVal_of _ _ hv1).mono ?_; rintro e w' ⟨rfl, rfl⟩) | (go_at_call 73; refine (rowsVal_of _ _ hv2).mono ?_; rintro e w' ⟨rfl, rfl⟩))
                go_ret
                exact ⟨_, rfl, by rw [hr.out, fineC_stop hlt H.out]; rfl, hb.alloc hb.size _⟩
              · have b3 : (l[k].2.1 == l[k].2.2) = false := by simpa using q3
                have H := keepBack (fineC_go (m := m) hlt ⟨⟨by have := Q1.out; omega, by have := Q2.out; omega⟩, hv1, hv2, q3⟩)
                clear q3
                go_wp2_with (first | (go_at_call 73; refine (rowsVal_of _ _ hv1).mono ?_; rintro e w' ⟨rfl, rfl⟩) | (go_at_call 73; refine (rowsVal_of _ _ hv2).mono ?_; rintro e w' ⟨rfl, rfl⟩))
                go_roundw
                case rel => exact ⟨k + 1, _, by omega, by go_num, rfl, hb.alloc hb.size _, hr.out.trans H.out⟩
                case measure => simp [intOf]; omega
    · go_wp2
      go_ret
      exact ⟨_, rfl, by rw [hr.out, fineC_end hlt]; rfl, hb⟩

end Go.Pch
end

section
namespace Go.Pch

theorem fineC_parts {m : Int} : ∀ {p q : List Change}, fineC m (p ++ q) = true → fineC m p = true ∧ ∀ x ∈ p, ∀ y ∈ q, x.1 < y.1
  | [], _, _ => ⟨rfl, by simp⟩
  | x :: p, q, h => by
    rw [List.cons_append, fineC_cons] at h
    obtain ⟨h1, h2⟩ := fineC_parts h.2
    refine ⟨by rw [fineC_cons]; exact ⟨h.1, h1⟩, fun y hy z hz => ?_⟩
    rcases List.mem_cons.1 hy with rfl | hy
    · exact (fineC_all h.2 z (by simp [hz])).1
    · exact h2 y hy z hz
theorem fineC_take {m : Int} {d : List Change} (h : fineC m d = true) (k : Nat) : fineC m (d.take k) = true := by
  rw [← List.take_append_drop k d] at h
  exact (fineC_parts h).1
/-- A key whose change is still to come has what it had. -/
theorem setAll_ahead {l : List Row} {d : List Change} (hl : riseB (-1) l = true) (h : fineC (-1) d = true) {k : Nat} (hk : k < d.length) : valueOf (setAll l (d.take k)) d[k].1 = valueOf l d[k].1 := by
  have hp := h
  rw [← List.take_append_drop k d] at hp
  have h2 := (fineC_parts hp).2
  rw [setAll_value (by omega) hl (fineC_take h k)]
  have : (d.take k).find? (fun x => decide (x.1 = d[k].1)) = none := by
    refine List.find?_eq_none.2 fun x hx => ?_
    have := h2 x hx d[k] (by rw [List.drop_eq_getElem_cons hk]; exact List.mem_cons_self)
    simpa using fun e : x.1 = d[k].1 => by omega
  rw [this]
theorem setAll_step (l : List Row) (d : List Change) {k : Nat} (hk : k < d.length) : setAll l (d.take (k + 1)) = setL (setAll l (d.take k)) d[k].1 d[k].2.2 := by
  rw [List.take_succ_eq_append_getElem hk, setAll_snoc]
theorem match_go {l : List Row} {d : List Change} {k : Nat} (hk : k < d.length) (h : valueOf l d[k].1 = d[k].2.1) : matchB l (d.drop k) = matchB l (d.drop (k + 1)) := by
  rw [List.drop_eq_getElem_cons hk, matchB, List.all_cons, show decide (valueOf l d[k].1 = d[k].2.1) = true by simpa using h, Bool.true_and, matchB]
theorem match_stop {l : List Row} {d : List Change} {k : Nat} (hk : k < d.length) (h : valueOf l d[k].1 ≠ d[k].2.1) : matchB l (d.drop k) = false := by
  rw [List.drop_eq_getElem_cons hk, matchB, List.all_cons, show decide (valueOf l d[k].1 = d[k].2.1) = false by simpa using h, Bool.false_and]
theorem match_end {l : List Row} {d : List Change} {k : Nat} (hk : ¬ k < d.length) : matchB l (d.drop k) = true := by
  rw [List.drop_of_length_le (by omega)]; rfl
theorem patchP_err {l : List Row} {d : List Change} (h : rowsErr l ≠ 0) : patchP l d = ([], rowsErr l) := by rw [patchP, if_neg h]
theorem patchP_form {l : List Row} {d : List Change} (h : rowsErr l = 0) (hf : fineC (-1) d = false) : patchP l d = ([], 1) := by rw [patchP, if_pos h, hf]; rfl
theorem patchP_clash {l : List Row} {d : List Change} (h : rowsErr l = 0) (hf : fineC (-1) d = true) (hm : matchB l d = false) : patchP l d = ([], 7) := by rw [patchP, if_pos h, if_pos hf, hm]; rfl
theorem patchP_many {l : List Row} {d : List Change} (h : rowsErr l = 0) (hf : fineC (-1) d = true) (hm : matchB l d = true) (h4 : 40 < (setAll l d).length) : patchP l d = ([], 2) := by rw [patchP, if_pos h, if_pos hf, if_pos hm, if_pos h4]
theorem patchP_ok {l : List Row} {d : List Change} (h : rowsErr l = 0) (hf : fineC (-1) d = true) (hm : matchB l d = true) (h4 : ¬ 40 < (setAll l d).length) : patchP l d = (setAll l d, 0) := by rw [patchP, if_pos h, if_pos hf, if_pos hm, if_neg h4]

end Go.Pch
end

section
namespace Go.Pch
open Go.RowKit Go.Proofs

theorem insertRow (v : Value) (l : List Row) (r : Row) (i B : Nat) (C : Blk) (w : World) (vb : Nat) (h : Own tRow 44 w B C v l) (hi : i ≤ l.length) (hl : l.length ≤ 1000000) (hB : B ≤ w.heap.size) (ok : i64ok r.1 ∧ i64ok r.2)
    (hne : v.ownBlock ≠ some vb) (hv : w.heap[vb]? = some (.cells #[.int .i64 r.1, .int .i64 r.2] 44)) :
    Calls Tryz.prog 101 #[v, .int .i64 i, .slice (some ⟨vb, 0, none⟩) 1 1] w (fun e w' => ∃ v', e = .returned v' ∧ Own tRow 44 w' B C v' (l.take i ++ r :: l.drop i) ∧ Below B w w') := by
  have hvlt : vb < w.heap.size := (Array.getElem?_eq_some_iff.1 hv).1
  have hob := h.block
  rcases Nat.lt_or_ge i l.length with hlt | hge
  · obtain ⟨g, cap, cur, xs, rfl, hBg, hgs, hg, hlc, hcm, _⟩ := h.cells (by omega)
    have hng : vb ≠ g := fun e => hne (by rw [e]; rfl)
    by_cases hc : l.length + 1 ≤ cap
    · exact (insertRoom l r i g cap B C w vb h hlt hl hc ok hng hv).mono fun e w' ⟨v', h1, h2, h3⟩ => ⟨v', h1, h2, (Below.refl B w).grown h3 hB (fun g' hg' => by obtain rfl := Option.some.inj hg'; exact hBg)⟩
    · exact (insertGrow l r i g cap B C w vb h hlt hl hB (by omega) ok hvlt (by rw [World.cell?, hv]; rfl) (by rw [World.cell?, hv]; rfl)).mono fun e w' ⟨v', h1, h2, h3⟩ => ⟨v', h1, h2, h3.mono hB⟩
  · obtain rfl : i = l.length := by omega
    have hsrc : Src tRow w (fun _ => False) (some ⟨vb, 0, none⟩) [r] := by
      refine ⟨[[.int .i64 r.1, .int .i64 r.2]], Each.one _ _ (show tRow.rd w _ _ r from ⟨rfl, ok⟩), by simp, fun ad had j u hj => ?_⟩
      obtain rfl := Option.some.inj had
      rw [Addr.add_lit, Nat.zero_add, World.cell?, hv]
      simpa using hj
    refine (insertEnd v _ l r B C w h hl hB ⟨vb, rfl, hsrc⟩).mono fun e w' ⟨v', h1, h2, h3⟩ => ⟨v', h1, ?_, (Below.refl B w).grown h3 hB (fun g hg => (hob g hg).1)⟩
    rw [List.take_of_length_le (Nat.le_refl _), List.drop_of_length_le (Nat.le_refl _)]
    exact h2

set_option maxHeartbeats 400000 in
theorem cloneOwn (v : Value) (l : List Row) (S : Blk) (w : World) (h : Sl tRow w S v l) (hl : l.length ≤ 1000000) :
    Calls Tryz.prog 74 #[v] w (Ret w fun r w' => Own tRow 44 w' w.heap.size (fun _ => False) r l) := by
  obtain ⟨ao, cap, rfl, hcap, hmax, hnil⟩ := h.shape
  cases ao with
  | none =>
    have h0 := hnil rfl
    obtain rfl : l = [] := List.eq_nil_of_length_eq_zero (by omega)
    subst h0
    have hq := fun W => Lib.run_eql_slice_nil (P := Tryz.prog) W 29 44 none 0 0 0 0 Tryz.underlying29
    go_enter Tryz.func74, Tryz.ntmps74
    go_wp2
    go_ret
    exact ⟨_, rfl, .nil, Below.refl _ _⟩
  | some ad =>
    have hq := fun W => Lib.run_eql_slice_nil (P := Tryz.prog) W 29 44 (some ad) l.length cap 0 0 Tryz.underlying29
    have hs := fun W (hW : Below w.heap.size w W) => Src.row (D' := fun _ => False) (h.call hW).src
    go_enter Tryz.func74, Tryz.ntmps74
    go_wp2_with (at_builtin; refine wpList_grow rfl (.tmp 5) (.tmp 6) rfl aRow rfl (Own.made (B := w.heap.size) (C := fun _ => False) _ (Nat.le_refl _)) rfl rfl (hs _ ((Below.refl _ _).alloc (Nat.le_refl _) _)) (by simp) (fun _ h => h.elim) (by simp; omega) (by simp) ?_)
    intro v1 w1 hown hgrow
    go_wp2
    go_ret
    exact ⟨_, rfl, hown, ((Below.refl _ _).alloc (Nat.le_refl _) _).grown hgrow (by simp) (by simp [Value.ownBlock])⟩

set_option maxHeartbeats 1000000 in
theorem rowsSet (v : Value) (l : List Row) (key val : Int) (S : Blk) (w : World) (h : Sl tRow w S v l) (hr : riseB (-1) l = true) (hl : l.length ≤ 999999) (ok : i64ok key ∧ i64ok val) :
    Calls Tryz.prog 76 #[v, .int .i64 key, .int .i64 val] w (Ret w fun r w' => Own tRow 44 w' w.heap.size (fun _ => False) r (setL l key val)) := by
  have hsk := rowsSeek v l key S w h hr (by omega)
  have hn := seekN_le l key
  obtain ⟨n, hn'⟩ : ∃ n, seekN l key = n := ⟨_, rfl⟩
  rw [hn'] at hsk hn
  cases hk : hasB l key with
  | true =>
    rw [hk] at hsk
    have hnl : n < l.length := by
      obtain ⟨r, hr1, _⟩ := valueOf_has hr hk
      rw [hn'] at hr1
      exact (List.getElem?_eq_some_iff.1 hr1).1
    have HSET := keepBack (show setL l key val = l.take n ++ ((if val = -1 then [] else [(key, val)]) ++ l.drop (n + 1)) by rw [setL, hn', hk, if_pos rfl])
    clear hn' hk hr
    go_enter Tryz.func76, Tryz.ntmps76
    go_wp2_with fail
    refine hsk.mono ?_; rintro e w1 ⟨_, rfl, rfl, b1⟩
    have s1 := b1.size
    go_wp2_with fail
    refine (cloneOwn v l S w1 (h.call b1) (by omega)).mono ?_; rintro e w2 ⟨v2, rfl, ho2, b2⟩
    have s2 := b2.size
    have b02 := b1.trans (b2.mono s1)
    have hb2 := ho2.block
    go_wp2_with fail
    refine (deleteRow v2 l n _ _ w2 ho2 hnl (by omega)).mono ?_; rintro e w3 ⟨v3, rfl, ho3, hg3, hbk⟩
    have b03 : Below w.heap.size w w3 := b02.grown hg3 (by omega) (fun g hg => by have := hb2 g hg; omega)
    have s3 := b03.size
    have ho3' : Own tRow 44 w3 w.heap.size (fun _ => False) v3 (l.take n ++ l.drop (n + 1)) := by
      obtain ⟨xs, ⟨e1, e2⟩, hE⟩ := ho3
      refine ⟨xs, ⟨e1, ?_⟩, hE⟩
      rcases e2 with e2 | ⟨g, cap, cur, a1, a2, a3⟩
      · exact .inl e2
      · exact .inr ⟨g, cap, cur, a1, by omega, a3⟩
    clear ho3 ho2 hg3
    by_cases hv : val = -1
    · rw [if_pos hv, List.nil_append] at HSET
      have hq : (val != -1) = false := by simp [hv]
      clear hv
      go_wp2
      go_ret
      exact ⟨_, rfl, by rw [HSET.out]; exact ho3', b03⟩
    · rw [if_neg hv, List.singleton_append] at HSET
      have hq : (val != -1) = true := by simp [hv]
      clear hv
      have hll : (l.take n ++ l.drop (n + 1)).length = l.length - 1 := by simp; omega
      have hlt : n ≤ (l.take n ++ l.drop (n + 1)).length := by omega
      have hlm : (l.take n ++ l.drop (n + 1)).length ≤ 1000000 := by omega
      have e1 : (l.take n ++ l.drop (n + 1)).take n = l.take n := by rw [List.take_append_of_le_length (by simp; omega), List.take_take, Nat.min_self]
      have e2 : (l.take n ++ l.drop (n + 1)).drop n = l.drop (n + 1) := by rw [List.drop_append_of_le_length (by simp; omega), List.drop_eq_nil_of_le (by simp; omega), List.nil_append]
      have HE := keepBack (And.intro e1 e2)
      clear e1 e2 hll
      generalize l.take n ++ l.drop (n + 1) = m at *
      have hob := ho3'.block
      go_wp2_with fail
      refine (insertRow v3 m (key, val) n w.heap.size _ _ w3.heap.size (ho3'.alloc _) hlt hlm (by simp; omega) ok (fun e => by have := hob _ e; omega) (heap_alloc_new w3 _)).mono ?_; rintro e w4 ⟨v4, rfl, ho4, b4⟩
      rw [HE.out.1, HE.out.2] at ho4
      go_wp2
      go_ret
      exact ⟨_, rfl, by rw [HSET.out]; exact ho4, (b03.alloc s3 _).trans b4⟩
  | false =>
    rw [hk] at hsk
    have HSET := keepBack (show setL l key val = l.take n ++ ((if val = -1 then [] else [(key, val)]) ++ l.drop n) by rw [setL, hn', hk]; simp)
    clear hn' hk hr
    go_enter Tryz.func76, Tryz.ntmps76
    go_wp2_with fail
    refine hsk.mono ?_; rintro e w1 ⟨_, rfl, rfl, b1⟩
    have s1 := b1.size
    go_wp2_with fail
    refine (cloneOwn v l S w1 (h.call b1) (by omega)).mono ?_; rintro e w2 ⟨v2, rfl, ho2, b2⟩
    have s2 := b2.size
    have b03 := b1.trans (b2.mono s1)
    have s3 := b03.size
    have ho3' : Own tRow 44 w2 w.heap.size (fun _ => False) v2 l := by
      obtain ⟨xs, ⟨e1, e2⟩, hE⟩ := ho2
      refine ⟨xs, ⟨e1, ?_⟩, hE⟩
      rcases e2 with e2 | ⟨g, cap, cur, a1, a2, a3⟩
      · exact .inl e2
      · exact .inr ⟨g, cap, cur, a1, by omega, a3⟩
    clear ho2
    by_cases hv : val = -1
    · rw [if_pos hv, List.nil_append, List.take_append_drop] at HSET
      have hq : (val != -1) = false := by simp [hv]
      clear hv
      go_wp2
      go_ret
      exact ⟨_, rfl, by rw [HSET.out]; exact ho3', b03⟩
    · rw [if_neg hv, List.singleton_append] at HSET
      have hq : (val != -1) = true := by simp [hv]
      clear hv
      have hob := ho3'.block
      go_wp2_with fail
      refine (insertRow v2 l (key, val) n w.heap.size _ _ w2.heap.size (ho3'.alloc _) hn (by omega) (by simp; omega) ok (fun e => by have := hob _ e; omega) (heap_alloc_new w2 _)).mono ?_; rintro e w4 ⟨v4, rfl, ho4, b4⟩
      go_wp2
      go_ret
      exact ⟨_, rfl, by rw [HSET.out]; exact ho4, (b03.alloc s3 _).trans b4⟩

end Go.Pch
end
