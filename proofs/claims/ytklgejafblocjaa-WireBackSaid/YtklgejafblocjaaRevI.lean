/- The walk of slices.Reverse at ints: a row of the call's own, turned round in place. -/
import Derived.Test.YtklgejafblocjaaDagX
import Derived.Test.YtklgejafblocjaaSeg
import Derived.Laws.Rows
import Derived.IntWalk
namespace Go.Pch
open Go.RowKit Go.Proofs
set_option maxRecDepth 100000

theorem grown_setCellI (A : World) (a : Addr) (v : Value) : A.grownBy (A.setCell a v) (some a.block) :=
  ⟨rfl, rfl, rfl, by simp, fun k _ hk => Below.heap_setCell _ _ _ _ (by intro e; exact hk (by rw [e]))⟩

/-- Which cell comes to p, when i of n cells at both ends (from o on) have been swapped. -/
def sgI (o n i p : Nat) : Nat := if (o ≤ p ∧ p < o + i) ∨ (o + n ≤ p + i ∧ p < o + n) then 2 * o + n - 1 - p else p
structure SwappedI (cur cs : List Value) (o n i : Nat) : Prop where
  len : cs.length = cur.length
  get : ∀ p, p < cur.length → cs[p]? = cur[sgI o n i p]?
theorem SwappedI.refl (cur : List Value) (o n : Nat) : SwappedI cur cur o n 0 :=
  ⟨rfl, fun p _ => by rw [sgI, if_neg (by omega)]⟩
theorem SwappedI.step {cur cs : List Value} {o n i j : Nat} (h : SwappedI cur cs o n i) (hj : j = n - 1 - i) (hij : i < j) (hn : o + n ≤ cur.length) {a b : Value} (ha : cs[o + i]? = some a) (hb : cs[o + j]? = some b) :
    SwappedI cur ((cs.set (o + i) b).set (o + j) a) o n (i + 1) := by
  refine ⟨by rw [List.length_set, List.length_set, h.len], fun p hp => ?_⟩
  have hl := h.len
  by_cases h1 : p = o + j
  · subst h1
    rw [List.getElem?_set_self (by rw [List.length_set]; omega), ← ha, h.get _ (by omega)]
    congr 1
    rw [sgI, if_neg (by omega), sgI, if_pos (by omega)]
    omega
  · rw [List.getElem?_set_ne (by omega)]
    by_cases h2 : p = o + i
    · subst h2
      rw [List.getElem?_set_self (by omega), ← hb, h.get _ (by omega)]
      congr 1
      rw [sgI, if_neg (by omega), sgI, if_pos (by omega)]
      omega
    · rw [List.getElem?_set_ne (by omega), h.get p hp]
      congr 1
      unfold sgI
      by_cases h3 : (o ≤ p ∧ p < o + i) ∨ (o + n ≤ p + i ∧ p < o + n)
      · rw [if_pos h3, if_pos (by omega)]
      · rw [if_neg h3, if_neg (by omega)]
theorem cells_cellI {w : World} {g p : Nat} {cs : List Value} {t : TypeId} (hg : w.heap[g]? = some (.cells cs.toArray t)) {v : Value} (hv : cs[p]? = some v) : w.cell? ⟨g, p, none⟩ = some v := by
  rw [World.cell?, hg]
  simpa using hv

theorem revInt (g o n cap : Nat) (cur : List Value) (t : TypeId) (w : World) (hg : w.heap[g]? = some (.cells cur.toArray t)) (hn : o + n ≤ cur.length) (hn2 : n ≤ 1000000) (hv : ∀ p u, o ≤ p → p < o + n → cur[p]? = some u → ∃ x : Int, u = .int .i64 x) :
    Calls Try.prog 63 #[.slice (some ⟨g, o, none⟩) n cap] w fun e w' => e = .returned (.tuple #[]) ∧ ∃ cs, SwappedI cur cs o n n ∧ w'.heap[g]? = some (.cells cs.toArray t) ∧ w.grownBy w' (some g) := by
  have HV := keepBack hv
  clear hv
  go_enter Try.func63, Try.ntmps63
  go_wp2_with fail
  go_loopw [2, 3] (fun i j wr => ∃ (k : Nat) (cs : List Value), i = .int .i64 k ∧ j = .int .i64 ((n : Int) - 1 - k) ∧ k ≤ n ∧ Hid (SwappedI cur cs o n k) ∧ wr.heap[g]? = some (.cells cs.toArray t) ∧ Hid (w.grownBy wr (some g))) (fun i _ _ => n - (intOf i).toNat)
  case atStart => exact ⟨0, cur, rfl, by simp, Nat.zero_le _, SwappedI.refl _ _ _, hg, ⟨rfl, rfl, rfl, Nat.le_refl _, fun _ _ _ => rfl⟩⟩
  case round =>
    obtain ⟨k, cs, rfl, rfl, hk, hsw, hgr, hgrow⟩ := hrel
    by_cases hlt : k < n - 1 - k
    · obtain ⟨j, hj⟩ : ∃ j, j = n - 1 - k := ⟨_, rfl⟩
      have hji : ((n : Int) - 1 - k) = (j : Int) := by omega
      rw [hji]
      rw [← hj] at hlt
      have hcl := hsw.out.len
      obtain ⟨a, ha⟩ : ∃ a, cs[o + k]? = some a := ⟨cs[o + k]'(by omega), List.getElem?_eq_getElem (by omega)⟩
      obtain ⟨b, hb⟩ : ∃ b, cs[o + j]? = some b := ⟨cs[o + j]'(by omega), List.getElem?_eq_getElem (by omega)⟩
      have ea : cs[o + k]? = cur[o + k]? := by rw [hsw.out.get _ (by omega), sgI, if_neg (by omega)]
      have eb : cs[o + j]? = cur[o + j]? := by rw [hsw.out.get _ (by omega), sgI, if_neg (by omega)]
      obtain ⟨a1, rfl⟩ := HV.out (o + k) a (by omega) (by omega) (ea ▸ ha)
      obtain ⟨b1, rfl⟩ := HV.out (o + j) b (by omega) (by omega) (eb ▸ hb)
      clear ea eb
      have hi1 := fun W => run_idx aInt (b := g) (o := o) (len := n) (cap := cap) (k : Int) k rfl (by omega) W
      have hi2 := fun W => run_idx aInt (b := g) (o := o) (len := n) (cap := cap) (j : Int) j rfl (by omega) W
      have es : tInt.size = 1 := rfl
      rw [es] at hi1 hi2
      simp only [Nat.mul_one] at hi1 hi2
      have c1 := cells_cellI hgr ha
      have c2 := cells_cellI hgr hb
      have f1 : wr.frozen? ⟨g, o + k, none⟩ = false := frozen_of_row wr g (o + k) _ t hgr
      have f2 : wr.frozen? ⟨g, o + j, none⟩ = false := frozen_of_row wr g (o + j) _ t hgr
      have ne1 : o + k ≠ o + j := by omega
      have ne2 : o + j ≠ o + k := by omega
      have hlt' : decide ((k : Int) < (j : Int)) = true := by simpa using hlt
      have HS := keepBack (hsw.out.step hj hlt hn ha hb)
      have HG := keepBack hgr
      have HJ := keepBack hj
      clear hgr hj hji ha hb
      go_wp2_with fail
      go_region
      go_wp2
      go_roundw
      case rel =>
        have hjj := HJ.out
        refine ⟨k + 1, _, by go_num, by rw [show ((n : Int) - 1 - ((k + 1 : Nat) : Int)) = (j : Int) - 1 by omega, Go.IntWalk.wrap64_in _ (by omega)], by omega, HS.out, ?_, ?_⟩
        · have e1 := heap_setCell_same wr g (o + k) _ t (.int .i64 b1) HG.out
          have e2 := heap_setCell_same _ g (o + j) _ t (.int .i64 a1) e1
          refine (show _ = _ from e2).trans ?_
          simp
        · have G := (hgrow.out.trans (grown_setCellI wr ⟨g, o + k, none⟩ (.int .i64 b1))).trans (grown_setCellI _ ⟨g, o + j, none⟩ (.int .i64 a1))
          exact keepBack ⟨G.1, G.2, G.3, G.4, G.5⟩
      case measure => have hjj := HJ.out; simp [intOf]; omega
    · go_wp2
      go_end0
      refine ⟨rfl, cs, ⟨hsw.out.len, fun p hp => ?_⟩, hgr, hgrow.out⟩
      rw [hsw.out.get p hp]
      congr 1
      unfold sgI
      by_cases h1 : o ≤ p ∧ p < o + n
      · by_cases h2 : (o ≤ p ∧ p < o + k) ∨ (o + n ≤ p + k ∧ p < o + n)
        · rw [if_pos h2, if_pos (by omega)]
        · rw [if_neg h2, if_pos (by omega)]
          omega
      · rw [if_neg (by omega), if_neg (by omega)]

theorem revNilI (cap : Nat) (w : World) :
    Calls Try.prog 63 #[.slice none 0 cap] w fun e w' => e = .returned (.tuple #[]) ∧ w = w' := by
  go_enter Try.func63, Try.ntmps63
  go_wp2_with fail
  go_loopw [2, 3] (fun i j wr => i = .int .i64 0 ∧ j = .int .i64 (-1) ∧ w = wr) (fun _ _ _ => 0)
  case atStart => exact ⟨rfl, rfl, rfl⟩
  case round =>
    obtain ⟨rfl, rfl, rfl⟩ := hrel
    go_wp2
    go_end0
    exact ⟨rfl, rfl⟩

theorem ownRev {e : TypeId} {w : World} {B : Nat} {C : Blk} {v : Value} {l : List Int} (h : Own tInt e w B C v l) (h0 : 0 < l.length) (hl : l.length ≤ 1000000) :
    Calls Try.prog 63 #[v] w fun x w' => x = .returned (.tuple #[]) ∧ Own tInt e w' B C v l.reverse ∧ w.grownBy w' v.ownBlock := by
  obtain ⟨g, cap, cur, xs, rfl, hB, hg, hc, h1, h2, h3, h4, hX⟩ := h.cells h0
  have es : tInt.size = 1 := rfl
  rw [es, Nat.mul_one] at h3 h4
  have hxs : ∀ (i : Nat) (x : Int), l[i]? = some x → cur[i]? = some (.int .i64 x) ∧ i64ok x := fun i x hi => by
    have hil := (List.getElem?_eq_some_iff.1 hi).1
    obtain ⟨cs, hcs⟩ : ∃ cs, xs[i]? = some cs := ⟨xs[i]'(by rw [hX.1]; exact hil), List.getElem?_eq_getElem _⟩
    obtain ⟨rfl, hok⟩ := hX.2 i cs x hcs hi
    have hf := flatten_get (sz := 1) (by omega) xs (fun c hc => (hX.lens c hc).trans es) i
    rw [Nat.div_one, Nat.mod_one, ← h4, List.getElem?_take_of_lt hil, hcs] at hf
    exact ⟨hf, hok⟩
  refine (revInt g 0 l.length cap cur e w hc (by omega) hl (fun p u _ hp hu => ?_)).mono ?_
  · have := (hxs p l[p] (List.getElem?_eq_getElem (by omega))).1
    rw [hu] at this
    exact ⟨_, Option.some.inj this⟩
  · rintro x w' ⟨rfl, cs, hsw, hg', hgr⟩
    refine ⟨rfl, ?_, hgr⟩
    have hget : ∀ i, i < l.length → cs[i]? = some (.int .i64 (l.reverse[i]?.getD 0)) := fun i hi => by
      rw [hsw.get i (by omega), sgI, if_pos (by omega)]
      have hj : l.length - 1 - i < l.length := by omega
      rw [show 2 * 0 + l.length - 1 - i = l.length - 1 - i by omega, (hxs _ l[l.length - 1 - i] (List.getElem?_eq_getElem hj)).1, List.getElem?_reverse (by omega), List.getElem?_eq_getElem hj]
      rfl
    have hnew : Own tInt e w' B C (.slice (some ⟨g, 0, none⟩) l.reverse.length cap) l.reverse := by
      refine Own.of_cells (cur := cs) (xs := l.reverse.map fun x => [Value.int .i64 x]) hB hg' (by simpa using h1) h2 (by rw [es, Nat.mul_one, hsw.len]; exact h3) ?_ ⟨by simp, fun i c x hc hx => ?_⟩
      · rw [es, Nat.mul_one, List.length_reverse]
        refine List.ext_getElem? fun i => ?_
        have hf := flatten_get (sz := 1) (by omega) (l.reverse.map fun x => [Value.int .i64 x]) (fun c hc => by
          obtain ⟨x, _, rfl⟩ := List.mem_map.1 hc
          rfl) i
        rw [Nat.div_one, Nat.mod_one] at hf
        rw [hf]
        by_cases hi : i < l.length
        · rw [List.getElem?_take_of_lt hi, hget i hi, List.getElem?_map, List.getElem?_eq_getElem (by simpa using hi)]
          rfl
        · rw [List.getElem?_eq_none (by rw [List.length_take]; omega), List.getElem?_eq_none (by simp; omega)]
          rfl
      · rw [List.getElem?_map, hx] at hc
        obtain rfl := Option.some.inj hc
        have hm : x ∈ l := List.mem_reverse.1 (List.mem_of_getElem? hx)
        obtain ⟨j, hj⟩ := List.getElem?_of_mem hm
        exact ⟨rfl, (hxs j x hj).2⟩
    rwa [List.length_reverse] at hnew

end Go.Pch
