/- copy, append and clear inside a slice of the call's own, as runs on lists of cells; no program is named here. The walk of slices.Reverse at ints: a row of the call's own, turned round in place. -/
import Derived.Test.YtjjkdpjjaijmbaaGreatDoorDg2
import Derived.Laws.CopyRow
import Derived.Laws.CopyOwn
import Derived.Lib.AppendZerosOnto
import Derived.Lib.SliceRun
import Derived.Deep.RegionLaw
import Derived.Test.YtjjkdpjjaijmbaaGreatDoorDg4
import Derived.Laws.Rows
import Derived.IntWalk
section
namespace Go.Pch
open Go.RowKit
def seg (cur : List Value) (o : Nat) (cs : List Value) : List Value := cur.take o ++ cs ++ cur.drop (o + cs.length)
theorem seg_len {cur cs : List Value} {o : Nat} (h : o + cs.length ≤ cur.length) : (seg cur o cs).length = cur.length := by
  simp [seg]; omega
theorem seg_take {cur : List Value} {o : Nat} (cs : List Value) (h : o ≤ cur.length) : (seg cur o cs).take o = cur.take o := by
  rw [seg, List.append_assoc, List.take_append_of_le_length (by simp; omega), List.take_take, Nat.min_self]
section
variable {α : Type} {E : Ty α} {e T : TypeId} {P : Program} {w : World}
theorem run_copy_seg (hA : At P E T e) {g o dLen dCap : Nat} {a : Addr} {sLen sCap n : Nat} {cur : List Value} {t : TypeId} {cs : List Value} (hg : w.heap[g]? = some (.cells cur.toArray t)) (hn : Nat.min sLen dLen = n) (hl : cs.length = n * E.size)
    (hsrc : ∀ j v, cs[j]? = some v → w.cell? (a.add j) = some v) (hfit : o + cs.length ≤ cur.length) (h1 : ∀ v ∈ cs, v.oneCell' = true) (ty : TypeId) :
    (Builtin.copy_ #[T, T] ty #[.slice (some ⟨g, o, none⟩) dLen dCap, .slice (some a) sLen sCap]).run P w = .ok (goInt n) (w.setRow g (seg cur o cs).toArray) := by
  obtain ⟨q, z, i1, i2, i3, i4, i5⟩ := hA.info
  have hl' := run_loadCells_list (P := P) w a cs hsrc
  have hst := run_storeCells_at P g o t cs 0 cur.toArray w hg (by simpa using hfit) h1
  simp only [Nat.add_zero] at hst
  simp [Builtin.copy_, run_underlying hA.und, Builtin.lenOf, Builtin.firstCells, sizeOf, typeInfo, i1, i3, hn, ← hl, hl', hst, seg]
theorem run_append_seg (hA : At P E T e) {g i cap m c : Nat} {a : Addr} {cur : List Value} {t : TypeId} {cs : List Value} (hg : w.heap[g]? = some (.cells cur.toArray t)) (hl : cs.length = m * E.size)
    (hsrc : ∀ j v, cs[j]? = some v → w.cell? (a.add j) = some v) (hroom : i + m ≤ cap) (hfit : i * E.size + cs.length ≤ cur.length) (h1 : ∀ v ∈ cs, v.oneCell' = true) (ty : TypeId) :
    (Builtin.append_ #[T, T] ty #[.slice (some ⟨g, 0, none⟩) i cap, .slice (some a) m c]).run P w = .ok (.slice (some ⟨g, 0, none⟩) (i + m) cap) (w.setRow g (seg cur (i * E.size) cs).toArray) := by
  obtain ⟨q, z, i1, i2, i3, i4, i5⟩ := hA.info
  have hl' := run_loadCells_list (P := P) w a cs hsrc
  have hst := run_storeCells_at P g (i * E.size) t cs 0 cur.toArray w hg (by simpa using hfit) h1
  simp only [Nat.add_zero] at hst
  have hadd : (⟨g, 0, none⟩ : Addr).add (i * E.size) = ⟨g, i * E.size, none⟩ := by rw [Addr.add_lit, Nat.zero_add]
  simp [Builtin.append_, run_underlying hA.und, Builtin.lenOf, Builtin.firstCells, sizeOf, typeInfo, i1, i3, hroom, ← hl, hl', hadd, hst, seg]
theorem run_clear_seg (hA : At P E T e) {g o n c : Nat} {cur : List Value} {t : TypeId} (hg : w.heap[g]? = some (.cells cur.toArray t)) (hn : 0 < n) (hfit : o + n * E.size ≤ cur.length)
    (hz : ∃ z, (P.info? e).map (·.zero) = some (some z) ∧ ∀ u ∈ z.cells.toList, u.oneCell' = true) :
    ∃ zs : List Value, zs.length = n * E.size ∧ ∀ ty, (Builtin.clear_ #[T] ty #[.slice (some ⟨g, o, none⟩) n c]).run P w = .ok (.tuple #[]) (w.setRow g (seg cur o zs).toArray) := by
  obtain ⟨q, z, i1, i2, i3, i4, i5⟩ := hA.info
  obtain ⟨z', hz1, hz2⟩ := hz
  rw [i1] at hz1
  simp only [Option.map_some, Option.some.injEq, i2] at hz1
  subst hz1
  have hlen : (Builtin.zeroCells z.cells n).toList.length = n * E.size := by simp [Builtin.zeroCells, i4]
  have hpos := E.pos
  have hone : ∀ u ∈ (Builtin.zeroCells z.cells n).toList, u.oneCell' = true := by
    intro u hu
    simp only [Builtin.zeroCells, Array.toList_map, List.mem_map, Array.toList_range, List.mem_range] at hu
    obtain ⟨i, _, rfl⟩ := hu
    refine hz2 _ ?_
    rw [i4, getElem!_pos z.cells (i % E.size) (by rw [i4]; exact Nat.mod_lt _ hpos)]
    simp
  have hst := run_storeCells_at P g o t (Builtin.zeroCells z.cells n).toList 0 cur.toArray w hg (by rw [hlen]; simpa using hfit) hone
  simp only [Nat.add_zero] at hst
  refine ⟨_, hlen, fun ty => ?_⟩
  obtain ⟨m, rfl⟩ : ∃ m, n = m + 1 := ⟨n - 1, by omega⟩
  simp [Builtin.clear_, run_underlying hA.und, zeroValue, typeInfo, i1, i2, hst, seg]
theorem run_cut3 (hA : At P E T e) (ao : Option Addr) (len cap lo hi mx : Nat) (a b c : Int) (ha : a = lo) (hb : b = hi) (hc : c = mx) (h1 : lo ≤ hi) (h2 : hi ≤ mx) (h3 : mx ≤ cap) :
    ∃ v, ∀ W, Sem.run P (Instr.slice T (.slice ao len cap) (some (.int .i64 a)) (some (.int .i64 b)) (some (.int .i64 c))) W = .ok v W := by
  obtain ⟨q, z, i1, i2, i3, i4, i5⟩ := hA.info
  subst ha hb hc
  have a1 : ¬ hi < lo := by omega
  have a2 : ¬ mx < hi := by omega
  have a3 : ¬ cap < mx := by omega
  exact ⟨_, fun W => by simp [Instr.slice, run_underlying hA.und, Instr.sliceBounds, Instr.sliceBound, asIntOf, sizeOf, typeInfo, i1, i3, h1, h2, h3]; rfl⟩
theorem cutAddr_zero (g o cap s : Nat) : cutAddr (some ⟨g, o, none⟩) cap 0 s = some ⟨g, o, none⟩ := by
  unfold cutAddr
  split
  · rfl
  · simp [Addr.add_lit]
theorem cutAddr_on {g o cap lo s : Nat} (h : cap ≠ lo) : cutAddr (some ⟨g, o, none⟩) cap lo s = some ⟨g, o + lo * s, none⟩ := by
  unfold cutAddr
  rw [if_neg h]
  simp [Addr.add_lit]
theorem cut_src {g cap lo s : Nat} {cur cs : List Value} {t : TypeId} (hg : w.heap[g]? = some (.cells cur.toArray t)) (hcs : ∀ j v, cs[j]? = some v → cur[lo * s + j]? = some v) (h0 : cap = lo → cs = []) :
    ∃ ad, cutAddr (some ⟨g, 0, none⟩) cap lo s = some ad ∧ ∀ j v, cs[j]? = some v → w.cell? (ad.add j) = some v := by
  by_cases h : cap = lo
  · refine ⟨⟨g, 0, none⟩, by unfold cutAddr; rw [if_pos h], fun j v hj => ?_⟩
    rw [h0 h] at hj
    simp at hj
  · refine ⟨⟨g, lo * s, none⟩, by rw [cutAddr_on h, Nat.zero_add], fun j v hj => ?_⟩
    rw [Addr.add_lit, World.cell?, hg]
    simpa using hcs j v hj
theorem wpList_copy_is {ops : Array Oper} {rest : List Oper} {o : Oper} {a : Act} {Q : Exit → Act → World → Prop} (hgd : o.guard = none) (d s : Operand) (t t' : TypeId)
    (ho : o.op = .call { callee := .builtin .copy, args := #[d, s], argTypes := #[t, t'] }) (v u : Value) (hd : a.eval d = v) (hs : a.eval s = u) {v' : Value} {w' : World}
    (hr : (Builtin.copy_ #[t, t'] o.type #[v, u]).run P w = .ok v' w') (h : wpList P ops Q rest (a.put o.dst v') w') : wpList P ops Q (o :: rest) a w :=
  wpList_plain hgd fun _ hK => by
    unfold Oper.wp execOp
    simp only [ho, resolve, invoke, builtin, Sem.run_bind, Sem.run_pure, Result.andThen_ok, List.map_toArray, List.map_cons, List.map_nil, hd, hs, hr]
    exact hK _ _ h
theorem step_copy_is {ops : Array Oper} {o : Oper} {a : Act} {K : Act → World → Prop} {Q : Exit → Act → World → Prop} {X : Prop}
    (hg : o.guard = none) (d x : Operand) (dT sT : TypeId) (hop : o.op = Op.call { callee := Callee.builtin Builtin.copy, args := #[d, x], argTypes := #[dT, sT] })
    (v u : Value) (hd : a.eval d = v) (hx : a.eval x = u) {v' : Value} {w' : World} (hr : (Builtin.copy_ #[dT, sT] o.type #[v, u]).run P w = .ok v' w') (hK : K (a.put o.dst v') w') :
    if Region.wanted o (yielded ops a.tmps) = true then Oper.wp P o a w K Q else X := by
  have hw : Region.wanted o (yielded ops a.tmps) = true := by simp [Region.wanted, hg]
  rw [if_pos hw]
  unfold Oper.wp
  simp [execOp, hop, resolve, invoke, builtin, hd, hx, hr, Result.andThen]
  exact hK
theorem step_append_is {ops : Array Oper} {o : Oper} {a : Act} {K : Act → World → Prop} {Q : Exit → Act → World → Prop} {X : Prop}
    (hg : o.guard = none) (d x : Operand) (dT sT : TypeId) (hop : o.op = Op.call { callee := Callee.builtin Builtin.append, args := #[d, x], argTypes := #[dT, sT] })
    (v u : Value) (hd : a.eval d = v) (hx : a.eval x = u) {v' : Value} {w' : World} (hr : (Builtin.append_ #[dT, sT] o.type #[v, u]).run P w = .ok v' w') (hK : K (a.put o.dst v') w') :
    if Region.wanted o (yielded ops a.tmps) = true then Oper.wp P o a w K Q else X := by
  have hw : Region.wanted o (yielded ops a.tmps) = true := by simp [Region.wanted, hg]
  rw [if_pos hw]
  unfold Oper.wp
  simp [execOp, hop, resolve, invoke, builtin, hd, hx, hr, Result.andThen]
  exact hK
theorem wpList_clear_is {ops : Array Oper} {rest : List Oper} {o : Oper} {a : Act} {Q : Exit → Act → World → Prop} (hgd : o.guard = none) (d : Operand) (t : TypeId)
    (ho : o.op = .call { callee := .builtin .clear, args := #[d], argTypes := #[t] }) (v : Value) (hd : a.eval d = v) {v' : Value} {w' : World}
    (hr : (Builtin.clear_ #[t] o.type #[v]).run P w = .ok v' w') (h : wpList P ops Q rest (a.put o.dst v') w') : wpList P ops Q (o :: rest) a w :=
  wpList_plain hgd fun _ hK => by
    unfold Oper.wp execOp
    simp only [ho, resolve, invoke, builtin, Sem.run_bind, Sem.run_pure, Result.andThen_ok, List.map_toArray, List.map_cons, List.map_nil, hd, hr]
    exact hK _ _ h
end
section
variable {α : Type} {E : Ty α} {e T : TypeId} {P : Program} {w w' : World} {B : Nat} {C : Blk} {v : Value} {l : List α}
theorem Own.cells (h : Own E e w B C v l) (hl : 0 < l.length) : ∃ g cap cur xs, v = .slice (some ⟨g, 0, none⟩) l.length cap ∧ B ≤ g ∧ g < w.heap.size ∧ w.heap[g]? = some (.cells (cur : List Value).toArray e) ∧ l.length ≤ cap ∧ cap ≤ maxLen ∧ cur.length = cap * E.size ∧
    cur.take (l.length * E.size) = xs.flatten ∧ Each E w (fun k => C k ∧ k ≠ g) xs l := by
  obtain ⟨xs, hr, hE⟩ := h
  rcases hr.2 with ⟨rfl, h0⟩ | ⟨g, cap, cur, rfl, hb, hg, h1, h2, h3, h4⟩
  · omega
  · refine ⟨g, cap, cur.toList, xs, rfl, hb, (Array.getElem?_eq_some_iff.1 hg).1, by simpa using hg, h1, h2, by simpa using h3, h4, ?_⟩
    exact hE.mono fun k hk _ => ⟨hk.1, fun e => hk.2 (by rw [e]; rfl)⟩
theorem Own.of_cells {g cap : Nat} {cur : List Value} {xs : List (List Value)} (hb : B ≤ g) (hg : w.heap[g]? = some (.cells cur.toArray e)) (h1 : l.length ≤ cap) (h2 : cap ≤ maxLen) (h3 : cur.length = cap * E.size)
    (h4 : cur.take (l.length * E.size) = xs.flatten) (hE : Each E w (fun k => C k ∧ k ≠ g) xs l) : Own E e w B C (.slice (some ⟨g, 0, none⟩) l.length cap) l := by
  refine ⟨xs, ⟨hE.flatLen, .inr ⟨g, cap, cur.toArray, rfl, hb, hg, h1, h2, by simpa using h3, by simpa using h4⟩⟩, hE.mono fun k hk _ => ⟨hk.1, ?_⟩⟩
  intro e
  exact hk.2 (Option.some.inj e)
theorem Each.take {xs : List (List Value)} {D : Blk} (h : Each E w D xs l) (n : Nat) : Each E w D (xs.take n) (l.take n) := by
  refine ⟨by simp [h.1], fun i cs a hc ha => ?_⟩
  rw [List.getElem?_take] at hc ha
  split at hc
  · rename_i hi
    rw [if_pos hi] at ha
    exact h.2 i cs a hc ha
  · cases hc
theorem Each.drop {xs : List (List Value)} {D : Blk} (h : Each E w D xs l) (n : Nat) : Each E w D (xs.drop n) (l.drop n) := by
  refine ⟨by simp [h.1], fun i cs a hc ha => ?_⟩
  rw [List.getElem?_drop] at hc ha
  exact h.2 _ cs a hc ha
theorem setRow_size (w : World) (g : Nat) (cs : Array Value) : (w.setRow g cs).heap.size = w.heap.size := by simp [World.setRow]
end
end Go.Pch
end

section
namespace Go.Pch
open Go.RowKit Go.Proofs
set_option maxRecDepth 100000
theorem grown_setCellI (A : World) (a : Addr) (v : Value) : A.grownBy (A.setCell a v) (some a.block) :=
  ⟨rfl, rfl, rfl, by simp, fun k _ hk => Below.heap_setCell _ _ _ _ (by intro e; exact hk (by rw [e]))⟩
def sgI (o n i p : Nat) : Nat := if (o ≤ p ∧ p < o + i) ∨ (o + n ≤ p + i ∧ p < o + n) then 2 * o + n - 1 - p else p
structure SwappedI (cur cs : List Value) (o n i : Nat) : Prop where
  len : cs.length = cur.length
  get : ∀ p, p < cur.length → cs[p]? = cur[sgI o n i p]?
theorem SwappedI.refl (cur : List Value) (o n : Nat) : SwappedI cur cur o n 0 :=
  ⟨rfl, fun p _ => by rw [sgI, if_neg (by omega)]⟩
theorem SwappedI.step {cur cs : List Value} {o n i j : Nat} (h : SwappedI cur cs o n i) (hj : j = n - 1 - i) (hij : i < j) (hn : o + n ≤ cur.length) {a b : Value} (ha : cs[o + i]? = some a) (hb : cs[o + j]? = some b) :
    SwappedI cur ((cs.set (o + i) b).set (o + j) a) o n (i + 1) := by
  refine ⟨by rw [List.length_set, List.length_set, h.len], fun p hp => ?_⟩
  have hl := h.len
  by_cases h1 : p = o + j
  · subst h1
    rw [List.getElem?_set_self (by rw [List.length_set]; omega), ← ha, h.get _ (by omega)]
    congr 1
    rw [sgI, if_neg (by omega), sgI, if_pos (by omega)]
    omega
  · rw [List.getElem?_set_ne (by omega)]
    by_cases h2 : p = o + i
    · subst h2
      rw [List.getElem?_set_self (by omega), ← hb, h.get _ (by omega)]
      congr 1
      rw [sgI, if_neg (by omega), sgI, if_pos (by omega)]
      omega
    · rw [List.getElem?_set_ne (by omega), h.get p hp]
      congr 1
      unfold sgI
      by_cases h3 : (o ≤ p ∧ p < o + i) ∨ (o + n ≤ p + i ∧ p < o + n)
      · rw [if_pos h3, if_pos (by omega)]
      · rw [if_neg h3, if_neg (by omega)]
theorem cells_cellI {w : World} {g p : Nat} {cs : List Value} {t : TypeId} (hg : w.heap[g]? = some (.cells cs.toArray t)) {v : Value} (hv : cs[p]? = some v) : w.cell? ⟨g, p, none⟩ = some v := by
  rw [World.cell?, hg]
  simpa using hv
theorem revInt (g o n cap : Nat) (cur : List Value) (t : TypeId) (w : World) (hg : w.heap[g]? = some (.cells cur.toArray t)) (hn : o + n ≤ cur.length) (hn2 : n ≤ 1000000) (hv : ∀ p u, o ≤ p → p < o + n → cur[p]? = some u → ∃ x : Int, u = .int .i64 x) :
    Calls Tryz.prog 113 #[.slice (some ⟨g, o, none⟩) n cap] w fun e w' => e = .returned (.tuple #[]) ∧ ∃ cs, SwappedI cur cs o n n ∧ w'.heap[g]? = some (.cells cs.toArray t) ∧ w.grownBy w' (some g) := by
  have HV := keepBack hv
  clear hv
  go_enter Tryz.func113, Tryz.ntmps113
  go_wp2_with fail
  go_loopw [2, 3] (fun i j wr => ∃ (k : Nat) (cs : List Value), i = .int .i64 k ∧ j = .int .i64 ((n : Int) - 1 - k) ∧ k ≤ n ∧ Hid (SwappedI cur cs o n k) ∧ wr.heap[g]? = some (.cells cs.toArray t) ∧ Hid (w.grownBy wr (some g))) (fun i _ _ => n - (intOf i).toNat)
  case atStart => exact ⟨0, cur, rfl, by simp, Nat.zero_le _, SwappedI.refl _ _ _, hg, ⟨rfl, rfl, rfl, Nat.le_refl _, fun _ _ _ => rfl⟩⟩
  case round =>
    obtain ⟨k, cs, rfl, rfl, hk, hsw, hgr, hgrow⟩ := hrel
    by_cases hlt : k < n - 1 - k
    · obtain ⟨j, hj⟩ : ∃ j, j = n - 1 - k := ⟨_, rfl⟩
      have hji : ((n : Int) - 1 - k) = (j : Int) := by omega
      rw [hji]
      rw [← hj] at hlt
      have hcl := hsw.out.len
      obtain ⟨a, ha⟩ : ∃ a, cs[o + k]? = some a := ⟨cs[o + k]'(by omega), List.getElem?_eq_getElem (by omega)⟩
      obtain ⟨b, hb⟩ : ∃ b, cs[o + j]? = some b := ⟨cs[o + j]'(by omega), List.getElem?_eq_getElem (by omega)⟩
      have ea : cs[o + k]? = cur[o + k]? := by rw [hsw.out.get _ (by omega), sgI, if_neg (by omega)]
      have eb : cs[o + j]? = cur[o + j]? := by rw [hsw.out.get _ (by omega), sgI, if_neg (by omega)]
      obtain ⟨a1, rfl⟩ := HV.out (o + k) a (by omega) (by omega) (ea ▸ ha)
      obtain ⟨b1, rfl⟩ := HV.out (o + j) b (by omega) (by omega) (eb ▸ hb)
      clear ea eb
      have hi1 := fun W => run_idx aInt (b := g) (o := o) (len := n) (cap := cap) (k : Int) k rfl (by omega) W
      have hi2 := fun W => run_idx aInt (b := g) (o := o) (len := n) (cap := cap) (j : Int) j rfl (by omega) W
      have es : tInt.size = 1 := rfl
      rw [es] at hi1 hi2
      simp only [Nat.mul_one] at hi1 hi2
      have c1 := cells_cellI hgr ha
      have c2 := cells_cellI hgr hb
      have f1 : wr.frozen? ⟨g, o + k, none⟩ = false := frozen_of_row wr g (o + k) _ t hgr
      have f2 : wr.frozen? ⟨g, o + j, none⟩ = false := frozen_of_row wr g (o + j) _ t hgr
      have ne1 : o + k ≠ o + j := by omega
      have ne2 : o + j ≠ o + k := by omega
      have hlt' : decide ((k : Int) < (j : Int)) = true := by simpa using hlt
      have HS := keepBack (hsw.out.step hj hlt hn ha hb)
      have HG := keepBack hgr
      have HJ := keepBack hj
      clear hgr hj hji ha hb
      go_wp2_with fail
      go_region
      go_wp2
      go_roundw
      case rel =>
        have hjj := HJ.out
        refine ⟨k + 1, _, by go_num, by rw [show ((n : Int) - 1 - ((k + 1 : Nat) : Int)) = (j : Int) - 1 by omega, Go.IntWalk.wrap64_in _ (by omega)], by omega, HS.out, ?_, ?_⟩
        · have e1 := heap_setCell_same wr g (o + k) _ t (.int .i64 b1) HG.out
          have e2 := heap_setCell_same _ g (o + j) _ t (.int .i64 a1) e1
          refine (show _ = _ from e2).trans ?_
          simp
        · have G := (hgrow.out.trans (grown_setCellI wr ⟨g, o + k, none⟩ (.int .i64 b1))).trans (grown_setCellI _ ⟨g, o + j, none⟩ (.int .i64 a1))
          exact keepBack ⟨G.1, G.2, G.3, G.4, G.5⟩
      case measure => have hjj := HJ.out; simp [intOf]; omega
    · go_wp2
      go_end0
      refine ⟨rfl, cs, ⟨hsw.out.len, fun p hp => ?_⟩, hgr, hgrow.out⟩
      rw [hsw.out.get p hp]
      congr 1
      unfold sgI
      by_cases h1 : o ≤ p ∧ p < o + n
      · by_cases h2 : (o ≤ p ∧ p < o + k) ∨ (o + n ≤ p + k ∧ p < o + n)
        · rw [if_pos h2, if_pos (by omega)]
        · rw [if_neg h2, if_pos (by omega)]
          omega
      · rw [if_neg (by omega), if_neg (by omega)]
theorem ownRev {e : TypeId} {w : World} {B : Nat} {C : Blk} {v : Value} {l : List Int} (h : Own tInt e w B C v l) (h0 : 0 < l.length) (hl : l.length ≤ 1000000) :
    Calls Tryz.prog 113 #[v] w fun x w' => x = .returned (.tuple #[]) ∧ Own tInt e w' B C v l.reverse ∧ w.grownBy w' v.ownBlock := by
  obtain ⟨g, cap, cur, xs, rfl, hB, hg, hc, h1, h2, h3, h4, hX⟩ := h.cells h0
  have es : tInt.size = 1 := rfl
  rw [es, Nat.mul_one] at h3 h4
  have hxs : ∀ (i : Nat) (x : Int), l[i]? = some x → cur[i]? = some (.int .i64 x) ∧ i64ok x := fun i x hi => by
    have hil := (List.getElem?_eq_some_iff.1 hi).1
    obtain ⟨cs, hcs⟩ : ∃ cs, xs[i]? = some cs := ⟨xs[i]'(by rw [hX.1]; exact hil), List.getElem?_eq_getElem _⟩
    obtain ⟨rfl, hok⟩ := hX.2 i cs x hcs hi
    have hf := flatten_get (sz := 1) (by omega) xs (fun c hc => (hX.lens c hc).trans es) i
    rw [Nat.div_one, Nat.mod_one, ← h4, List.getElem?_take_of_lt hil, hcs] at hf
    exact ⟨hf, hok⟩
  refine (revInt g 0 l.length cap cur e w hc (by omega) hl (fun p u _ hp hu => ?_)).mono ?_
  · have := (hxs p l[p] (List.getElem?_eq_getElem (by omega))).1
    rw [hu] at this
    exact ⟨_, Option.some.inj this⟩
  · rintro x w' ⟨rfl, cs, hsw, hg', hgr⟩
    refine ⟨rfl, ?_, hgr⟩
    have hget : ∀ i, i < l.length → cs[i]? = some (.int .i64 (l.reverse[i]?.getD 0)) := fun i hi => by
      rw [hsw.get i (by omega), sgI, if_pos (by omega)]
      have hj : l.length - 1 - i < l.length := by omega
      rw [show 2 * 0 + l.length - 1 - i = l.length - 1 - i by omega, (hxs _ l[l.length - 1 - i] (List.getElem?_eq_getElem hj)).1, List.getElem?_reverse (by omega), List.getElem?_eq_getElem hj]
      rfl
    have hnew : Own tInt e w' B C (.slice (some ⟨g, 0, none⟩) l.reverse.length cap) l.reverse := by
      refine Own.of_cells (cur := cs) (xs := l.reverse.map fun x => [Value.int .i64 x]) hB hg' (by simpa using h1) h2 (by rw [es, Nat.mul_one, hsw.len]; exact h3) ?_ ⟨by simp, fun i c x hc hx => ?_⟩
      · rw [es, Nat.mul_one, List.length_reverse]
        refine List.ext_getElem? fun i => ?_
        have hf := flatten_get (sz := 1) (by omega) (l.reverse.map fun x => [Value.int .i64 x]) (fun c hc => by
          obtain ⟨x, _, rfl⟩ := List.mem_map.1 hc
          rfl) i
        rw [Nat.div_one, Nat.mod_one] at hf
        rw [hf]
        by_cases hi : i < l.length
        · rw [List.getElem?_take_of_lt hi, hget i hi, List.getElem?_map, List.getElem?_eq_getElem (by simpa using hi)]
          rfl
        · rw [List.getElem?_eq_none (by rw [List.length_take]; omega), List.getElem?_eq_none (by simp; omega)]
          rfl
      · rw [List.getElem?_map, hx] at hc
        obtain rfl := Option.some.inj hc
        have hm : x ∈ l := List.mem_reverse.1 (List.mem_of_getElem? hx)
        obtain ⟨j, hj⟩ := List.getElem?_of_mem hm
        exact ⟨rfl, (hxs j x hj).2⟩
    rwa [List.length_reverse] at hnew
end Go.Pch
end
