/- copy, append and clear inside a slice of the call's own, as runs on lists of cells; no program is named here. -/
import Derived.Test.YtklgejafblocjaaOwn
import Derived.Laws.CopyRow
import Derived.Laws.CopyOwn
import Derived.Lib.AppendZerosOnto
import Derived.Lib.SliceRun
import Derived.Deep.RegionLaw
namespace Go.Pch
open Go.RowKit

/-- Cells, some of which are written over. -/
def seg (cur : List Value) (o : Nat) (cs : List Value) : List Value := cur.take o ++ cs ++ cur.drop (o + cs.length)
theorem seg_len {cur cs : List Value} {o : Nat} (h : o + cs.length ≤ cur.length) : (seg cur o cs).length = cur.length := by
  simp [seg]; omega
theorem seg_take {cur : List Value} {o : Nat} (cs : List Value) (h : o ≤ cur.length) : (seg cur o cs).take o = cur.take o := by
  rw [seg, List.append_assoc, List.take_append_of_le_length (by simp; omega), List.take_take, Nat.min_self]
theorem seg_nil (cur : List Value) (o : Nat) : seg cur o [] = cur := by simp [seg]

section
variable {α : Type} {E : Ty α} {e T : TypeId} {P : Program} {w : World}

theorem run_copy_seg (hA : At P E T e) {g o dLen dCap : Nat} {a : Addr} {sLen sCap n : Nat} {cur : List Value} {t : TypeId} {cs : List Value} (hg : w.heap[g]? = some (.cells cur.toArray t)) (hn : Nat.min sLen dLen = n) (hl : cs.length = n * E.size)
    (hsrc : ∀ j v, cs[j]? = some v → w.cell? (a.add j) = some v) (hfit : o + cs.length ≤ cur.length) (h1 : ∀ v ∈ cs, v.oneCell' = true) (ty : TypeId) :
    (Builtin.copy_ #[T, T] ty #[.slice (some ⟨g, o, none⟩) dLen dCap, .slice (some a) sLen sCap]).run P w = .ok (goInt n) (w.setRow g (seg cur o cs).toArray) := by
  obtain ⟨q, z, i1, i2, i3, i4, i5⟩ := hA.info
  have hl' := run_loadCells_list (P := P) w a cs hsrc
  have hst := run_storeCells_at P g o t cs 0 cur.toArray w hg (by simpa using hfit) h1
  simp only [Nat.add_zero] at hst
  simp [Builtin.copy_, run_underlying hA.und, Builtin.lenOf, Builtin.firstCells, sizeOf, typeInfo, i1, i3, hn, ← hl, hl', hst, seg]

theorem run_append_seg (hA : At P E T e) {g i cap m c : Nat} {a : Addr} {cur : List Value} {t : TypeId} {cs : List Value} (hg : w.heap[g]? = some (.cells cur.toArray t)) (hl : cs.length = m * E.size)
    (hsrc : ∀ j v, cs[j]? = some v → w.cell? (a.add j) = some v) (hroom : i + m ≤ cap) (hfit : i * E.size + cs.length ≤ cur.length) (h1 : ∀ v ∈ cs, v.oneCell' = true) (ty : TypeId) :
    (Builtin.append_ #[T, T] ty #[.slice (some ⟨g, 0, none⟩) i cap, .slice (some a) m c]).run P w = .ok (.slice (some ⟨g, 0, none⟩) (i + m) cap) (w.setRow g (seg cur (i * E.size) cs).toArray) := by
  obtain ⟨q, z, i1, i2, i3, i4, i5⟩ := hA.info
  have hl' := run_loadCells_list (P := P) w a cs hsrc
  have hst := run_storeCells_at P g (i * E.size) t cs 0 cur.toArray w hg (by simpa using hfit) h1
  simp only [Nat.add_zero] at hst
  have hadd : (⟨g, 0, none⟩ : Addr).add (i * E.size) = ⟨g, i * E.size, none⟩ := by rw [Addr.add_lit, Nat.zero_add]
  simp [Builtin.append_, run_underlying hA.und, Builtin.lenOf, Builtin.firstCells, sizeOf, typeInfo, i1, i3, hroom, ← hl, hl', hadd, hst, seg]

theorem run_clear_seg (hA : At P E T e) {g o n c : Nat} {cur : List Value} {t : TypeId} (hg : w.heap[g]? = some (.cells cur.toArray t)) (hn : 0 < n) (hfit : o + n * E.size ≤ cur.length)
    (hz : ∃ z, (P.info? e).map (·.zero) = some (some z) ∧ ∀ u ∈ z.cells.toList, u.oneCell' = true) :
    ∃ zs : List Value, zs.length = n * E.size ∧ ∀ ty, (Builtin.clear_ #[T] ty #[.slice (some ⟨g, o, none⟩) n c]).run P w = .ok (.tuple #[]) (w.setRow g (seg cur o zs).toArray) := by
  obtain ⟨q, z, i1, i2, i3, i4, i5⟩ := hA.info
  obtain ⟨z', hz1, hz2⟩ := hz
  rw [i1] at hz1
  simp only [Option.map_some, Option.some.injEq, i2] at hz1
  subst hz1
  have hlen : (Builtin.zeroCells z.cells n).toList.length = n * E.size := by simp [Builtin.zeroCells, i4]
  have hpos := E.pos
  have hone : ∀ u ∈ (Builtin.zeroCells z.cells n).toList, u.oneCell' = true := by
    intro u hu
    simp only [Builtin.zeroCells, Array.toList_map, List.mem_map, Array.toList_range, List.mem_range] at hu
    obtain ⟨i, _, rfl⟩ := hu
    refine hz2 _ ?_
    rw [i4, getElem!_pos z.cells (i % E.size) (by rw [i4]; exact Nat.mod_lt _ hpos)]
    simp
  have hst := run_storeCells_at P g o t (Builtin.zeroCells z.cells n).toList 0 cur.toArray w hg (by rw [hlen]; simpa using hfit) hone
  simp only [Nat.add_zero] at hst
  refine ⟨_, hlen, fun ty => ?_⟩
  obtain ⟨m, rfl⟩ : ∃ m, n = m + 1 := ⟨n - 1, by omega⟩
  simp [Builtin.clear_, run_underlying hA.und, zeroValue, typeInfo, i1, i2, hst, seg]

/-- s[lo:hi:max]: the bounds fit. -/
theorem run_cut3 (hA : At P E T e) (ao : Option Addr) (len cap lo hi mx : Nat) (a b c : Int) (ha : a = lo) (hb : b = hi) (hc : c = mx) (h1 : lo ≤ hi) (h2 : hi ≤ mx) (h3 : mx ≤ cap) :
    ∃ v, ∀ W, Sem.run P (Instr.slice T (.slice ao len cap) (some (.int .i64 a)) (some (.int .i64 b)) (some (.int .i64 c))) W = .ok v W := by
  obtain ⟨q, z, i1, i2, i3, i4, i5⟩ := hA.info
  subst ha hb hc
  have a1 : ¬ hi < lo := by omega
  have a2 : ¬ mx < hi := by omega
  have a3 : ¬ cap < mx := by omega
  exact ⟨_, fun W => by simp [Instr.slice, run_underlying hA.und, Instr.sliceBounds, Instr.sliceBound, asIntOf, sizeOf, typeInfo, i1, i3, h1, h2, h3]; rfl⟩

theorem cutAddr_zero (g o cap s : Nat) : cutAddr (some ⟨g, o, none⟩) cap 0 s = some ⟨g, o, none⟩ := by
  unfold cutAddr
  split
  · rfl
  · simp [Addr.add_lit]
theorem cutAddr_on {g o cap lo s : Nat} (h : cap ≠ lo) : cutAddr (some ⟨g, o, none⟩) cap lo s = some ⟨g, o + lo * s, none⟩ := by
  unfold cutAddr
  rw [if_neg h]
  simp [Addr.add_lit]
/-- A piece's cells. -/
theorem cut_src {g cap lo s : Nat} {cur cs : List Value} {t : TypeId} (hg : w.heap[g]? = some (.cells cur.toArray t)) (hcs : ∀ j v, cs[j]? = some v → cur[lo * s + j]? = some v) (h0 : cap = lo → cs = []) :
    ∃ ad, cutAddr (some ⟨g, 0, none⟩) cap lo s = some ad ∧ ∀ j v, cs[j]? = some v → w.cell? (ad.add j) = some v := by
  by_cases h : cap = lo
  · refine ⟨⟨g, 0, none⟩, by unfold cutAddr; rw [if_pos h], fun j v hj => ?_⟩
    rw [h0 h] at hj
    simp at hj
  · refine ⟨⟨g, lo * s, none⟩, by rw [cutAddr_on h, Nat.zero_add], fun j v hj => ?_⟩
    rw [Addr.add_lit, World.cell?, hg]
    simpa using hcs j v hj

/-! ### Builtins whose run is known, as laws for the walk and for a drawn region -/
theorem wpList_copy_is {ops : Array Oper} {rest : List Oper} {o : Oper} {a : Act} {Q : Exit → Act → World → Prop} (hgd : o.guard = none) (d s : Operand) (t t' : TypeId)
    (ho : o.op = .call { callee := .builtin .copy, args := #[d, s], argTypes := #[t, t'] }) (v u : Value) (hd : a.eval d = v) (hs : a.eval s = u) {v' : Value} {w' : World}
    (hr : (Builtin.copy_ #[t, t'] o.type #[v, u]).run P w = .ok v' w') (h : wpList P ops Q rest (a.put o.dst v') w') : wpList P ops Q (o :: rest) a w :=
  wpList_plain hgd fun _ hK => by
    unfold Oper.wp execOp
    simp only [ho, resolve, invoke, builtin, Sem.run_bind, Sem.run_pure, Result.andThen_ok, List.map_toArray, List.map_cons, List.map_nil, hd, hs, hr]
    exact hK _ _ h
theorem step_copy_is {ops : Array Oper} {o : Oper} {a : Act} {K : Act → World → Prop} {Q : Exit → Act → World → Prop} {X : Prop}
    (hg : o.guard = none) (d x : Operand) (dT sT : TypeId) (hop : o.op = Op.call { callee := Callee.builtin Builtin.copy, args := #[d, x], argTypes := #[dT, sT] })
    (v u : Value) (hd : a.eval d = v) (hx : a.eval x = u) {v' : Value} {w' : World} (hr : (Builtin.copy_ #[dT, sT] o.type #[v, u]).run P w = .ok v' w') (hK : K (a.put o.dst v') w') :
    if Region.wanted o (yielded ops a.tmps) = true then Oper.wp P o a w K Q else X := by
  have hw : Region.wanted o (yielded ops a.tmps) = true := by simp [Region.wanted, hg]
  rw [if_pos hw]
  unfold Oper.wp
  simp [execOp, hop, resolve, invoke, builtin, hd, hx, hr, Result.andThen]
  exact hK
theorem step_append_is {ops : Array Oper} {o : Oper} {a : Act} {K : Act → World → Prop} {Q : Exit → Act → World → Prop} {X : Prop}
    (hg : o.guard = none) (d x : Operand) (dT sT : TypeId) (hop : o.op = Op.call { callee := Callee.builtin Builtin.append, args := #[d, x], argTypes := #[dT, sT] })
    (v u : Value) (hd : a.eval d = v) (hx : a.eval x = u) {v' : Value} {w' : World} (hr : (Builtin.append_ #[dT, sT] o.type #[v, u]).run P w = .ok v' w') (hK : K (a.put o.dst v') w') :
    if Region.wanted o (yielded ops a.tmps) = true then Oper.wp P o a w K Q else X := by
  have hw : Region.wanted o (yielded ops a.tmps) = true := by simp [Region.wanted, hg]
  rw [if_pos hw]
  unfold Oper.wp
  simp [execOp, hop, resolve, invoke, builtin, hd, hx, hr, Result.andThen]
  exact hK
theorem wpList_clear_is {ops : Array Oper} {rest : List Oper} {o : Oper} {a : Act} {Q : Exit → Act → World → Prop} (hgd : o.guard = none) (d : Operand) (t : TypeId)
    (ho : o.op = .call { callee := .builtin .clear, args := #[d], argTypes := #[t] }) (v : Value) (hd : a.eval d = v) {v' : Value} {w' : World}
    (hr : (Builtin.clear_ #[t] o.type #[v]).run P w = .ok v' w') (h : wpList P ops Q rest (a.put o.dst v') w') : wpList P ops Q (o :: rest) a w :=
  wpList_plain hgd fun _ hK => by
    unfold Oper.wp execOp
    simp only [ho, resolve, invoke, builtin, Sem.run_bind, Sem.run_pure, Result.andThen_ok, List.map_toArray, List.map_cons, List.map_nil, hd, hr]
    exact hK _ _ h
end

/-- append, as a law for the walk, at an operation that stands behind a guard. -/
theorem wpList_growG {α : Type} {E : Ty α} {e T : TypeId} {w : World} {B : Nat} {C D : Blk} {v : Value} {l m : List α} {P : Program} {ops : Array Oper} {rest : List Oper} {o : Oper} {a : Act} {Q : Exit → Act → World → Prop} (hw : Region.wanted o (yielded ops a.tmps) = true) (s x : Operand)
    (ho : o.op = .call { callee := .builtin .append, args := #[s, x], argTypes := #[T, T] }) (hA : At P E T e) (hs : a.eval s = v) (h : Own E e w B C v l) {ao : Option Addr} {c n : Nat} (hx : a.eval x = .slice ao n c) (hnm : n = m.length) (hsrc : Src E w D ao m) (hc : ao = none → c = 0)
    (hD : ∀ k, D k → k < w.heap.size → C k ∧ some k ≠ v.ownBlock) (hn : l.length + m.length ≤ 1000000000000) (hB : B ≤ w.heap.size)
    (hK : ∀ v' w', Own E e w' B C v' (l ++ m) → w.grownBy w' v.ownBlock → wpList P ops Q rest (a.put o.dst v') w') : wpList P ops Q (o :: rest) a w := by
  refine wpList_step fun K hK' => ?_
  rw [if_pos hw]
  subst hnm
  obtain ⟨v', w', hrun, h1, h2, _⟩ := h.run hA hsrc hc o.type hD hn hB
  unfold Oper.wp
  simp [execOp, ho, resolve, invoke, builtin, hs, hx, hrun, Result.andThen]
  exact hK' _ _ (hK v' w' h1 h2)

/-! ### What is grown, as cells -/
section
variable {α : Type} {E : Ty α} {e T : TypeId} {P : Program} {w w' : World} {B : Nat} {C : Blk} {v : Value} {l : List α}

theorem Own.cells (h : Own E e w B C v l) (hl : 0 < l.length) : ∃ g cap cur xs, v = .slice (some ⟨g, 0, none⟩) l.length cap ∧ B ≤ g ∧ g < w.heap.size ∧ w.heap[g]? = some (.cells (cur : List Value).toArray e) ∧ l.length ≤ cap ∧ cap ≤ maxLen ∧ cur.length = cap * E.size ∧
    cur.take (l.length * E.size) = xs.flatten ∧ Each E w (fun k => C k ∧ k ≠ g) xs l := by
  obtain ⟨xs, hr, hE⟩ := h
  rcases hr.2 with ⟨rfl, h0⟩ | ⟨g, cap, cur, rfl, hb, hg, h1, h2, h3, h4⟩
  · omega
  · refine ⟨g, cap, cur.toList, xs, rfl, hb, (Array.getElem?_eq_some_iff.1 hg).1, by simpa using hg, h1, h2, by simpa using h3, h4, ?_⟩
    exact hE.mono fun k hk _ => ⟨hk.1, fun e => hk.2 (by rw [e]; rfl)⟩
theorem Own.of_cells {g cap : Nat} {cur : List Value} {xs : List (List Value)} (hb : B ≤ g) (hg : w.heap[g]? = some (.cells cur.toArray e)) (h1 : l.length ≤ cap) (h2 : cap ≤ maxLen) (h3 : cur.length = cap * E.size)
    (h4 : cur.take (l.length * E.size) = xs.flatten) (hE : Each E w (fun k => C k ∧ k ≠ g) xs l) : Own E e w B C (.slice (some ⟨g, 0, none⟩) l.length cap) l := by
  refine ⟨xs, ⟨hE.flatLen, .inr ⟨g, cap, cur.toArray, rfl, hb, hg, h1, h2, by simpa using h3, by simpa using h4⟩⟩, hE.mono fun k hk _ => ⟨hk.1, ?_⟩⟩
  intro e
  exact hk.2 (Option.some.inj e)

theorem Each.take {xs : List (List Value)} {D : Blk} (h : Each E w D xs l) (n : Nat) : Each E w D (xs.take n) (l.take n) := by
  refine ⟨by simp [h.1], fun i cs a hc ha => ?_⟩
  rw [List.getElem?_take] at hc ha
  split at hc
  · rename_i hi
    rw [if_pos hi] at ha
    exact h.2 i cs a hc ha
  · cases hc
theorem Each.drop {xs : List (List Value)} {D : Blk} (h : Each E w D xs l) (n : Nat) : Each E w D (xs.drop n) (l.drop n) := by
  refine ⟨by simp [h.1], fun i cs a hc ha => ?_⟩
  rw [List.getElem?_drop] at hc ha
  exact h.2 _ cs a hc ha

theorem setRow_size (w : World) (g : Nat) (cs : Array Value) : (w.setRow g cs).heap.size = w.heap.size := by simp [World.setRow]
theorem setRow_grown (w : World) (g : Nat) (cs : Array Value) : w.grownBy (w.setRow g cs) (some g) := ⟨rfl, rfl, rfl, by rw [setRow_size]; exact Nat.le_refl _, fun k _ hk => setRow_other w g k cs (fun e => hk (by rw [e]))⟩
end

end Go.Pch
