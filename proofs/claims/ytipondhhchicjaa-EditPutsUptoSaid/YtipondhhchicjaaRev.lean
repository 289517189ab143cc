/- The walks of slices.Reverse and slices.Clone at levels: a row of slices in an own block, turned round in place. -/
import Derived.Test.YtipondhhchicjaaC5
import Derived.Test.YtipondhhchicjaaSeg
import Derived.Laws.Rows
import Derived.IntWalk
namespace Go.Pch
open Go.RowKit Go.Proofs
set_option maxRecDepth 100000

/-- Which cell comes to p, when i of n cells at both ends (from o on) have been swapped. -/
def sg (o n i p : Nat) : Nat := if (o ≤ p ∧ p < o + i) ∨ (o + n ≤ p + i ∧ p < o + n) then 2 * o + n - 1 - p else p
structure Swapped (cur cs : List Value) (o n i : Nat) : Prop where
  len : cs.length = cur.length
  get : ∀ p, p < cur.length → cs[p]? = cur[sg o n i p]?
theorem Swapped.refl (cur : List Value) (o n : Nat) : Swapped cur cur o n 0 :=
  ⟨rfl, fun p _ => by rw [sg, if_neg (by omega)]⟩
theorem Swapped.step {cur cs : List Value} {o n i j : Nat} (h : Swapped cur cs o n i) (hj : j = n - 1 - i) (hij : i < j) (hn : o + n ≤ cur.length) {a b : Value} (ha : cs[o + i]? = some a) (hb : cs[o + j]? = some b) :
    Swapped cur ((cs.set (o + i) b).set (o + j) a) o n (i + 1) := by
  refine ⟨by rw [List.length_set, List.length_set, h.len], fun p hp => ?_⟩
  have hl := h.len
  by_cases h1 : p = o + j
  · subst h1
    rw [List.getElem?_set_self (by rw [List.length_set]; omega), ← ha, h.get _ (by omega)]
    congr 1
    rw [sg, if_neg (by omega), sg, if_pos (by omega)]
    omega
  · rw [List.getElem?_set_ne (by omega)]
    by_cases h2 : p = o + i
    · subst h2
      rw [List.getElem?_set_self (by omega), ← hb, h.get _ (by omega)]
      congr 1
      rw [sg, if_neg (by omega), sg, if_pos (by omega)]
      omega
    · rw [List.getElem?_set_ne (by omega), h.get p hp]
      congr 1
      unfold sg
      by_cases h3 : (o ≤ p ∧ p < o + i) ∨ (o + n ≤ p + i ∧ p < o + n)
      · rw [if_pos h3, if_pos (by omega)]
      · rw [if_neg h3, if_neg (by omega)]
theorem cells_cell {w : World} {g p : Nat} {cs : List Value} {t : TypeId} (hg : w.heap[g]? = some (.cells cs.toArray t)) {v : Value} (hv : cs[p]? = some v) : w.cell? ⟨g, p, none⟩ = some v := by
  rw [World.cell?, hg]
  simpa using hv

theorem revLev (g o n cap : Nat) (cur : List Value) (t : TypeId) (w : World) (hg : w.heap[g]? = some (.cells cur.toArray t)) (hn : o + n ≤ cur.length) (hn2 : n ≤ 1000000) (hv : ∀ p u, o ≤ p → p < o + n → cur[p]? = some u → ∃ ao l c, u = .slice ao l c) :
    Calls Try.prog 52 #[.slice (some ⟨g, o, none⟩) n cap] w fun e w' => e = .returned (.tuple #[]) ∧ ∃ cs, Swapped cur cs o n n ∧ w'.heap[g]? = some (.cells cs.toArray t) ∧ w.grownBy w' (some g) := by
  have HV := keepBack hv
  clear hv
  go_enter Try.func52, Try.ntmps52
  go_wp2_with fail
  go_loopw [2, 3] (fun i j wr => ∃ (k : Nat) (cs : List Value), i = .int .i64 k ∧ j = .int .i64 ((n : Int) - 1 - k) ∧ k ≤ n ∧ Hid (Swapped cur cs o n k) ∧ wr.heap[g]? = some (.cells cs.toArray t) ∧ Hid (w.grownBy wr (some g))) (fun i _ _ => n - (intOf i).toNat)
  case atStart => exact ⟨0, cur, rfl, by simp, Nat.zero_le _, Swapped.refl _ _ _, hg, ⟨rfl, rfl, rfl, Nat.le_refl _, fun _ _ _ => rfl⟩⟩
  case round =>
    obtain ⟨k, cs, rfl, rfl, hk, hsw, hgr, hgrow⟩ := hrel
    by_cases hlt : k < n - 1 - k
    · obtain ⟨j, hj⟩ : ∃ j, j = n - 1 - k := ⟨_, rfl⟩
      have hji : ((n : Int) - 1 - k) = (j : Int) := by omega
      rw [hji]
      rw [← hj] at hlt
      have hcl := hsw.out.len
      obtain ⟨a, ha⟩ : ∃ a, cs[o + k]? = some a := ⟨cs[o + k]'(by omega), List.getElem?_eq_getElem (by omega)⟩
      obtain ⟨b, hb⟩ : ∃ b, cs[o + j]? = some b := ⟨cs[o + j]'(by omega), List.getElem?_eq_getElem (by omega)⟩
      have ea : cs[o + k]? = cur[o + k]? := by rw [hsw.out.get _ (by omega), sg, if_neg (by omega)]
      have eb : cs[o + j]? = cur[o + j]? := by rw [hsw.out.get _ (by omega), sg, if_neg (by omega)]
      obtain ⟨a1, a2, a3, rfl⟩ := HV.out (o + k) a (by omega) (by omega) (ea ▸ ha)
      obtain ⟨b1, b2, b3, rfl⟩ := HV.out (o + j) b (by omega) (by omega) (eb ▸ hb)
      clear ea eb
      have hi1 := fun W => run_idx aLev (b := g) (o := o) (len := n) (cap := cap) (k : Int) k rfl (by omega) W
      have hi2 := fun W => run_idx aLev (b := g) (o := o) (len := n) (cap := cap) (j : Int) j rfl (by omega) W
      have es : tRow.slice.size = 1 := rfl
      rw [es] at hi1 hi2
      simp only [Nat.mul_one] at hi1 hi2
      have c1 := cells_cell hgr ha
      have c2 := cells_cell hgr hb
      have f1 : wr.frozen? ⟨g, o + k, none⟩ = false := frozen_of_row wr g (o + k) _ t hgr
      have f2 : wr.frozen? ⟨g, o + j, none⟩ = false := frozen_of_row wr g (o + j) _ t hgr
      have ne1 : o + k ≠ o + j := by omega
      have ne2 : o + j ≠ o + k := by omega
      have hlt' : decide ((k : Int) < (j : Int)) = true := by simpa using hlt
      have HS := keepBack (hsw.out.step hj hlt hn ha hb)
      have HG := keepBack hgr
      have HJ := keepBack hj
      clear hgr hj hji ha hb
      go_wp2_with fail
      go_region
      go_wp2
      go_roundw
      case rel =>
        have hjj := HJ.out
        refine ⟨k + 1, _, by go_num, by rw [show ((n : Int) - 1 - ((k + 1 : Nat) : Int)) = (j : Int) - 1 by omega, Go.IntWalk.wrap64_in _ (by omega)], by omega, HS.out, ?_, ?_⟩
        · have e1 := heap_setCell_same wr g (o + k) _ t (.slice b1 b2 b3) HG.out
          have e2 := heap_setCell_same _ g (o + j) _ t (.slice a1 a2 a3) e1
          refine (show _ = _ from e2).trans ?_
          simp
        · have G := (hgrow.out.trans (grown_setCell wr ⟨g, o + k, none⟩ (.slice b1 b2 b3))).trans (grown_setCell _ ⟨g, o + j, none⟩ (.slice a1 a2 a3))
          exact keepBack ⟨G.1, G.2, G.3, G.4, G.5⟩
      case measure => have hjj := HJ.out; simp [intOf]; omega
    · go_wp2
      go_end0
      refine ⟨rfl, cs, ⟨hsw.out.len, fun p hp => ?_⟩, hgr, hgrow.out⟩
      rw [hsw.out.get p hp]
      congr 1
      unfold sg
      by_cases h1 : o ≤ p ∧ p < o + n
      · by_cases h2 : (o ≤ p ∧ p < o + k) ∨ (o + n ≤ p + k ∧ p < o + n)
        · rw [if_pos h2, if_pos (by omega)]
        · rw [if_neg h2, if_pos (by omega)]
          omega
      · rw [if_neg (by omega), if_neg (by omega)]

theorem revNil (cap : Nat) (w : World) :
    Calls Try.prog 52 #[.slice none 0 cap] w fun e w' => e = .returned (.tuple #[]) ∧ w = w' := by
  go_enter Try.func52, Try.ntmps52
  go_wp2_with fail
  go_loopw [2, 3] (fun i j wr => i = .int .i64 0 ∧ j = .int .i64 (-1) ∧ w = wr) (fun _ _ _ => 0)
  case atStart => exact ⟨rfl, rfl, rfl⟩
  case round =>
    obtain ⟨rfl, rfl, rfl⟩ := hrel
    go_wp2
    go_end0
    exact ⟨rfl, rfl⟩

/-- A level in a row of slices that the call itself may turn round: nil, or a piece of an own block (behind B); its chunks lie below B. -/
def LvV (w : World) (B : Nat) (v : Value) (l : List (List Row)) : Prop :=
  (v = .slice none 0 0 ∧ l = []) ∨
  ∃ g o cap cur t, v = .slice (some ⟨g, o, none⟩) l.length cap ∧ B ≤ g ∧ w.heap[g]? = some (.cells (cur : List Value).toArray t) ∧ l.length ≤ cap ∧ cap ≤ maxLen ∧ o + cap ≤ cur.length ∧
    ∀ i c, l[i]? = some c → ∃ u, cur[o + i]? = some u ∧ Sl tRow w (fun k => k < B) u c
theorem LvV.sl {w : World} {B : Nat} {v : Value} {l : List (List Row)} (h : LvV w B v l) : Sl tRow.slice w (fun _ => True) v l := by
  rcases h with ⟨rfl, rfl⟩ | ⟨g, o, cap, cur, t, rfl, hB, hg, h1, h2, h3, h4⟩
  · exact Sl.nil _ _ _
  · refine ⟨some ⟨g, o, none⟩, l.length, cap, rfl, rfl, h1, h2, by simp, fun i c hi => ⟨g, o, rfl, trivial, ?_⟩⟩
    obtain ⟨u, hu, hs⟩ := h4 i c hi
    refine ⟨[u], hs.mono (fun _ _ _ => trivial), fun j x hj => ?_⟩
    match j, hj with
    | 0, hj =>
      obtain rfl : u = x := by simpa using hj
      have es : tRow.slice.size = 1 := rfl
      rw [es, Nat.mul_one, Nat.add_zero]
      exact cells_cell hg hu
    | j + 1, hj => simp at hj
theorem LvV.keep {w w' : World} {B : Nat} {v : Value} {l : List (List Row)} (h : LvV w B v l) (hk : ∀ k, (k < B ∨ v.ownBlock = some k) → k < w.heap.size → w'.heap[k]? = w.heap[k]?) : LvV w' B v l := by
  rcases h with h | ⟨g, o, cap, cur, t, rfl, hB', hg, h1, h2, h3, h4⟩
  · exact .inl h
  · refine .inr ⟨g, o, cap, cur, t, rfl, hB', (hk g (.inr rfl) (Array.getElem?_eq_some_iff.1 hg).1).trans hg, h1, h2, h3, fun i c hi => ?_⟩
    obtain ⟨u, hu, hs⟩ := h4 i c hi
    exact ⟨u, hu, hs.keep fun k hk1 hk2 => hk k (.inl hk1) hk2⟩
theorem LvV.call {w w' : World} {B : Nat} {v : Value} {l : List (List Row)} (h : LvV w B v l) (hb : Below w.heap.size w w') : LvV w' B v l := h.keep fun k _ hk => hb.block k hk
theorem LvV.other {w w' : World} {B : Nat} {v u : Value} {l : List (List Row)} (h : LvV w B v l) (hg : w.grownBy w' u.ownBlock) (hne : ∀ g, u.ownBlock = some g → B ≤ g ∧ v.ownBlock ≠ some g) : LvV w' B v l :=
  h.keep fun k hk hlt => hg.block k hlt fun e => by
    obtain ⟨h1, h2⟩ := hne k e.symm
    rcases hk with hk | hk
    · omega
    · exact h2 hk
theorem LvV.block {w : World} {B : Nat} {v : Value} {l : List (List Row)} (h : LvV w B v l) : ∀ g, v.ownBlock = some g → B ≤ g ∧ g < w.heap.size := by
  rcases h with ⟨rfl, rfl⟩ | ⟨g, o, cap, cur, t, rfl, hB', hg, h1, h2, h3, h4⟩
  · intro g hg; simp [Value.ownBlock] at hg
  · intro g' hg'
    obtain rfl : g = g' := by simpa [Value.ownBlock] using hg'
    exact ⟨hB', (Array.getElem?_eq_some_iff.1 hg).1⟩
theorem LvV.cutFrom {w : World} {B : Nat} {v : Value} {l : List (List Row)} (h : LvV w B v l) (a : Int) (lo : Nat) (ha : a = lo) (hlo : lo ≤ l.length) :
    ∃ v', (∀ W, Sem.run Try.prog (Instr.sliceAt 58 v (some (.int .i64 a)) none none) W = .ok v' W) ∧ (∀ W, Sem.run Try.prog (Instr.slice 58 v (some (.int .i64 a)) none none) W = .ok v' W) ∧ LvV w B v' (l.drop lo) ∧ v'.ownBlock = v.ownBlock ∧
      ∃ ao c, v' = .slice ao (l.length - lo) c := by
  rcases h with ⟨rfl, rfl⟩ | ⟨g, o, cap, cur, t, rfl, hB', hg, h1, h2, h3, h4⟩
  · obtain rfl : lo = 0 := by simpa using hlo
    exact ⟨_, fun W => (run_at aLev _ _ _ _ W).trans (run_cutFrom aLev none 0 0 0 a ha (by omega) W), fun W => run_cutFrom aLev none 0 0 0 a ha (by omega) W, .inl ⟨rfl, rfl⟩, rfl, _, _, rfl⟩
  · refine ⟨_, fun W => (run_at aLev _ _ _ _ W).trans (run_cutFrom aLev _ _ _ lo a ha hlo W), fun W => run_cutFrom aLev _ _ _ lo a ha hlo W, ?_, ?_, _, _, rfl⟩
    · by_cases hc : cap = lo
      · subst hc
        refine .inr ⟨g, o, 0, cur, t, ?_, hB', hg, by simp; omega, Nat.zero_le _, by omega, fun i c hi => ?_⟩
        · rw [cutAddr, if_pos rfl, List.length_drop, Nat.sub_self]
        · rw [List.getElem?_drop] at hi
          have := (List.getElem?_eq_some_iff.1 hi).1
          omega
      · refine .inr ⟨g, o + lo, cap - lo, cur, t, ?_, hB', hg, by simp; omega, by omega, by omega, fun i c hi => ?_⟩
        · rw [cutAddr_on hc, List.length_drop, show lo * tRow.slice.size = lo from Nat.mul_one lo]
        · rw [List.getElem?_drop] at hi
          obtain ⟨u, hu, hs⟩ := h4 _ c hi
          exact ⟨u, by rw [Nat.add_assoc]; exact hu, hs⟩
    · unfold cutAddr
      split
      · rfl
      · simp only [Option.map_some, Value.ownBlock, Addr.add]
        split <;> rfl
theorem LvV.of_own {w : World} {B B' : Nat} {v : Value} {l : List (List Row)} {e : TypeId} (h : Own tRow.slice e w B' (fun k => k < B) v l) (hBB : B ≤ B') : LvV w B v l := by
  obtain ⟨xs, ⟨h1, h2⟩, hE⟩ := h
  rcases h2 with ⟨rfl, h0⟩ | ⟨g, cap, cur, rfl, hb, hg, hlc, hcm, hcs, hct⟩
  · exact .inl ⟨rfl, List.eq_nil_of_length_eq_zero h0⟩
  · refine .inr ⟨g, 0, cap, cur.toList, e, rfl, Nat.le_trans hBB hb, by simpa using hg, hlc, hcm, ?_, fun i c hi => ?_⟩
    · have es : tRow.slice.size = 1 := rfl
      rw [es, Nat.mul_one] at hcs
      simp [hcs]
    · have hil := (List.getElem?_eq_some_iff.1 hi).1
      obtain ⟨cs, hcs'⟩ : ∃ cs, xs[i]? = some cs := ⟨xs[i]'(by rw [hE.1]; exact hil), List.getElem?_eq_getElem _⟩
      have hrd := hE.2 i cs c hcs' hi
      have hlen : cs.length = 1 := tRow.slice.len hrd
      obtain ⟨u, rfl⟩ : ∃ u, cs = [u] := by
        match cs, hlen with
        | [u], _ => exact ⟨u, rfl⟩
      refine ⟨u, ?_, (show Sl tRow w _ u c from hrd).mono fun k hk _ => hk.1⟩
      have hf := flatten_get (sz := 1) (by omega) xs (fun c hc => hE.lens c hc) i
      rw [Nat.div_one, hcs', Nat.mod_one] at hf
      rw [Nat.zero_add]
      have : (cur.toList.take (l.length * tRow.slice.size))[i]? = some u := by rw [hct, hf]; rfl
      rwa [List.getElem?_take_of_lt (by have es : tRow.slice.size = 1 := rfl; rw [es]; omega)] at this
theorem LvV.rev {w : World} {B : Nat} {v : Value} {l : List (List Row)} (h : LvV w B v l) (hl : l.length ≤ 1000000) :
    Calls Try.prog 52 #[v] w fun e w' => e = .returned (.tuple #[]) ∧ LvV w' B v l.reverse ∧ w.grownBy w' v.ownBlock := by
  rcases h with ⟨rfl, rfl⟩ | ⟨g, o, cap, cur, t, rfl, hB', hg, h1, h2, h3, h4⟩
  · exact (revNil 0 w).mono fun e w' ⟨he, hw⟩ => ⟨he, .inl ⟨rfl, rfl⟩, hw ▸ World.grownBy.refl _ _⟩
  · refine (revLev g o l.length cap cur t w hg (by omega) hl fun p u hp1 hp2 hu => ?_).mono fun e w' ⟨he, cs, hsw, hg', hgr⟩ => ⟨he, .inr ⟨g, o, cap, cs, t, by simp, hB', hg', by simpa using h1, h2, by rw [hsw.len]; exact h3, fun i c hi => ?_⟩, hgr⟩
    · obtain ⟨q, rfl⟩ : ∃ q, p = o + q := ⟨p - o, by omega⟩
      obtain ⟨u', hu', hs⟩ := h4 q _ (List.getElem?_eq_getElem (by omega))
      obtain rfl := Option.some.inj (hu'.symm.trans hu)
      obtain ⟨ao, c, rfl, _⟩ := hs.shape
      exact ⟨_, _, _, rfl⟩
    · have hil : i < l.length := by have := (List.getElem?_eq_some_iff.1 hi).1; simpa using this
      rw [List.getElem?_reverse hil] at hi
      obtain ⟨u, hu, hs⟩ := h4 _ c hi
      refine ⟨u, ?_, hs.keep fun k hk1 hk2 => hgr.block k hk2 (by simp; omega)⟩
      rw [hsw.get _ (by omega), ← hu, sg, if_pos (by omega)]
      congr 1
      omega

set_option maxHeartbeats 400000 in
theorem cloneLev (v : Value) (l : List (List Row)) (B : Nat) (w : World) (h : Sl tRow.slice w (fun k => k < B) v l) (hB : B ≤ w.heap.size) (hl : l.length ≤ 1000000) :
    Calls Try.prog 51 #[v] w (Ret w fun r w' => Own tRow.slice 22 w' w.heap.size (fun k => k < B) r l) := by
  obtain ⟨ao, cap, rfl, hcap, hmax, hnil⟩ := h.shape
  cases ao with
  | none =>
    have h0 := hnil rfl
    obtain rfl : l = [] := List.eq_nil_of_length_eq_zero (by omega)
    subst h0
    have hq := fun W => Lib.run_eql_slice_nil (P := Try.prog) W 58 22 none 0 0 0 0 Try.underlying58
    go_enter Try.func51, Try.ntmps51
    go_wp2
    go_ret
    exact ⟨_, rfl, .nil, Below.refl _ _⟩
  | some ad =>
    have hq := fun W => Lib.run_eql_slice_nil (P := Try.prog) W 58 22 (some ad) l.length cap 0 0 Try.underlying58
    have hs := fun W (hW : Below w.heap.size w W) => (h.call hW).src
    go_enter Try.func51, Try.ntmps51
    go_wp2_with (at_builtin; refine wpList_grow rfl (.tmp 5) (.tmp 6) rfl aLev rfl (Own.made (B := w.heap.size) (C := fun k => k < B) _ (Nat.le_refl _)) rfl rfl (hs _ ((Below.refl _ _).alloc (Nat.le_refl _) _)) (by simp) (fun k hk _ => ⟨hk, fun e => absurd (Option.some.inj e) (Nat.ne_of_lt (Nat.lt_of_lt_of_le hk hB))⟩) (by simp; omega) (by simp) ?_)
    intro v1 w1 hown hgrow
    go_wp2
    go_ret
    exact ⟨_, rfl, hown, ((Below.refl _ _).alloc (Nat.le_refl _) _).grown hgrow (by simp) (by simp [Value.ownBlock])⟩

end Go.Pch
