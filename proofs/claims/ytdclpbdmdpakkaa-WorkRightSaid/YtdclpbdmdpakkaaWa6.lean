/- copy, append and clear inside a slice of the call's own, as runs on lists of cells; no program is named here. A cell of an element of a slice that the call itself grows is written; no program is named here. -/
import Derived.Test.YtdclpbdmdpakkaaWa3
import Derived.Laws.CopyRow
import Derived.Laws.CopyOwn
import Derived.Lib.AppendZerosOnto
import Derived.Lib.SliceRun
import Derived.Deep.RegionLaw
section
namespace Go.Pch
open Go.RowKit

/-- Cells, some of which are written over. -/
def seg (cur : List Value) (o : Nat) (cs : List Value) : List Value := cur.take o ++ cs ++ cur.drop (o + cs.length)
theorem seg_len {cur cs : List Value} {o : Nat} (h : o + cs.length ≤ cur.length) : (seg cur o cs).length = cur.length := by
  simp [seg]; omega
theorem seg_take {cur : List Value} {o : Nat} (cs : List Value) (h : o ≤ cur.length) : (seg cur o cs).take o = cur.take o := by
  rw [seg, List.append_assoc, List.take_append_of_le_length (by simp; omega), List.take_take, Nat.min_self]
theorem seg_nil (cur : List Value) (o : Nat) : seg cur o [] = cur := by simp [seg]

section
variable {α : Type} {E : Ty α} {e T : TypeId} {P : Program} {w : World}

theorem run_copy_seg (hA : At P E T e) {g o dLen dCap : Nat} {a : Addr} {sLen sCap n : Nat} {cur : List Value} {t : TypeId} {cs : List Value} (hg : w.heap[g]? = some (.cells cur.toArray t)) (hn : Nat.min sLen dLen = n) (hl : cs.length = n * E.size)
    (hsrc : ∀ j v, cs[j]? = some v → w.cell? (a.add j) = some v) (hfit : o + cs.length ≤ cur.length) (h1 : ∀ v ∈ cs, v.oneCell' = true) (ty : TypeId) :
    (Builtin.copy_ #[T, T] ty #[.slice (some ⟨g, o, none⟩) dLen dCap, .slice (some a) sLen sCap]).run P w = .ok (goInt n) (w.setRow g (seg cur o cs).toArray) := by
  obtain ⟨q, z, i1, i2, i3, i4, i5⟩ := hA.info
  have hl' := run_loadCells_list (P := P) w a cs hsrc
  have hst := run_storeCells_at P g o t cs 0 cur.toArray w hg (by simpa using hfit) h1
  simp only [Nat.add_zero] at hst
  simp [Builtin.copy_, run_underlying hA.und, Builtin.lenOf, Builtin.firstCells, sizeOf, typeInfo, i1, i3, hn, ← hl, hl', hst, seg]

theorem run_append_seg (hA : At P E T e) {g i cap m c : Nat} {a : Addr} {cur : List Value} {t : TypeId} {cs : List Value} (hg : w.heap[g]? = some (.cells cur.toArray t)) (hl : cs.length = m * E.size)
    (hsrc : ∀ j v, cs[j]? = some v → w.cell? (a.add j) = some v) (hroom : i + m ≤ cap) (hfit : i * E.size + cs.length ≤ cur.length) (h1 : ∀ v ∈ cs, v.oneCell' = true) (ty : TypeId) :
    (Builtin.append_ #[T, T] ty #[.slice (some ⟨g, 0, none⟩) i cap, .slice (some a) m c]).run P w = .ok (.slice (some ⟨g, 0, none⟩) (i + m) cap) (w.setRow g (seg cur (i * E.size) cs).toArray) := by
  obtain ⟨q, z, i1, i2, i3, i4, i5⟩ := hA.info
  have hl' := run_loadCells_list (P := P) w a cs hsrc
  have hst := run_storeCells_at P g (i * E.size) t cs 0 cur.toArray w hg (by simpa using hfit) h1
  simp only [Nat.add_zero] at hst
  have hadd : (⟨g, 0, none⟩ : Addr).add (i * E.size) = ⟨g, i * E.size, none⟩ := by rw [Addr.add_lit, Nat.zero_add]
  simp [Builtin.append_, run_underlying hA.und, Builtin.lenOf, Builtin.firstCells, sizeOf, typeInfo, i1, i3, hroom, ← hl, hl', hadd, hst, seg]

theorem run_clear_seg (hA : At P E T e) {g o n c : Nat} {cur : List Value} {t : TypeId} (hg : w.heap[g]? = some (.cells cur.toArray t)) (hn : 0 < n) (hfit : o + n * E.size ≤ cur.length)
    (hz : ∃ z, (P.info? e).map (·.zero) = some (some z) ∧ ∀ u ∈ z.cells.toList, u.oneCell' = true) :
    ∃ zs : List Value, zs.length = n * E.size ∧ ∀ ty, (Builtin.clear_ #[T] ty #[.slice (some ⟨g, o, none⟩) n c]).run P w = .ok (.tuple #[]) (w.setRow g (seg cur o zs).toArray) := by
  obtain ⟨q, z, i1, i2, i3, i4, i5⟩ := hA.info
  obtain ⟨z', hz1, hz2⟩ := hz
  rw [i1] at hz1
  simp only [Option.map_some, Option.some.injEq, i2] at hz1
  subst hz1
  have hlen : (Builtin.zeroCells z.cells n).toList.length = n * E.size := by simp [Builtin.zeroCells, i4]
  have hpos := E.pos
  have hone : ∀ u ∈ (Builtin.zeroCells z.cells n).toList, u.oneCell' = true := by
    intro u hu
    simp only [Builtin.zeroCells, Array.toList_map, List.mem_map, Array.toList_range, List.mem_range] at hu
    obtain ⟨i, _, rfl⟩ := hu
    refine hz2 _ ?_
    rw [i4, getElem!_pos z.cells (i % E.size) (by rw [i4]; exact Nat.mod_lt _ hpos)]
    simp
  have hst := run_storeCells_at P g o t (Builtin.zeroCells z.cells n).toList 0 cur.toArray w hg (by rw [hlen]; simpa using hfit) hone
  simp only [Nat.add_zero] at hst
  refine ⟨_, hlen, fun ty => ?_⟩
  obtain ⟨m, rfl⟩ : ∃ m, n = m + 1 := ⟨n - 1, by omega⟩
  simp [Builtin.clear_, run_underlying hA.und, zeroValue, typeInfo, i1, i2, hst, seg]

/-- s[lo:hi:max]: the bounds fit. -/
theorem run_cut3 (hA : At P E T e) (ao : Option Addr) (len cap lo hi mx : Nat) (a b c : Int) (ha : a = lo) (hb : b = hi) (hc : c = mx) (h1 : lo ≤ hi) (h2 : hi ≤ mx) (h3 : mx ≤ cap) :
    ∃ v, ∀ W, Sem.run P (Instr.slice T (.slice ao len cap) (some (.int .i64 a)) (some (.int .i64 b)) (some (.int .i64 c))) W = .ok v W := by
  obtain ⟨q, z, i1, i2, i3, i4, i5⟩ := hA.info
  subst ha hb hc
  have a1 : ¬ hi < lo := by omega
  have a2 : ¬ mx < hi := by omega
  have a3 : ¬ cap < mx := by omega
  exact ⟨_, fun W => by simp [Instr.slice, run_underlying hA.und, Instr.sliceBounds, Instr.sliceBound, asIntOf, sizeOf, typeInfo, i1, i3, h1, h2, h3]; rfl⟩

theorem cutAddr_zero (g o cap s : Nat) : cutAddr (some ⟨g, o, none⟩) cap 0 s = some ⟨g, o, none⟩ := by
  unfold cutAddr
  split
  · rfl
  · simp [Addr.add_lit]
theorem cutAddr_on {g o cap lo s : Nat} (h : cap ≠ lo) : cutAddr (some ⟨g, o, none⟩) cap lo s = some ⟨g, o + lo * s, none⟩ := by
  unfold cutAddr
  rw [if_neg h]
  simp [Addr.add_lit]
/-- A piece's cells. -/
theorem cut_src {g cap lo s : Nat} {cur cs : List Value} {t : TypeId} (hg : w.heap[g]? = some (.cells cur.toArray t)) (hcs : ∀ j v, cs[j]? = some v → cur[lo * s + j]? = some v) (h0 : cap = lo → cs = []) :
    ∃ ad, cutAddr (some ⟨g, 0, none⟩) cap lo s = some ad ∧ ∀ j v, cs[j]? = some v → w.cell? (ad.add j) = some v := by
  by_cases h : cap = lo
  · refine ⟨⟨g, 0, none⟩, by unfold cutAddr; rw [if_pos h], fun j v hj => ?_⟩
    rw [h0 h] at hj
    simp at hj
  · refine ⟨⟨g, lo * s, none⟩, by rw [cutAddr_on h, Nat.zero_add], fun j v hj => ?_⟩
    rw [Addr.add_lit, World.cell?, hg]
    simpa using hcs j v hj

/-! ### Builtins whose run is known, as laws for the walk and for a drawn region -/
theorem wpList_copy_is {ops : Array Oper} {rest : List Oper} {o : Oper} {a : Act} {Q : Exit → Act → World → Prop} (hgd : o.guard = none) (d s : Operand) (t t' : TypeId)
    (ho : o.op = .call { callee := .builtin .copy, args := #[d, s], argTypes := #[t, t'] }) (v u : Value) (hd : a.eval d = v) (hs : a.eval s = u) {v' : Value} {w' : World}
    (hr : (Builtin.copy_ #[t, t'] o.type #[v, u]).run P w = .ok v' w') (h : wpList P ops Q rest (a.put o.dst v') w') : wpList P ops Q (o :: rest) a w :=
  wpList_plain hgd fun _ hK => by
    unfold Oper.wp execOp
    simp only [ho, resolve, invoke, builtin, Sem.run_bind, Sem.run_pure, Result.andThen_ok, List.map_toArray, List.map_cons, List.map_nil, hd, hs, hr]
    exact hK _ _ h
theorem step_copy_is {ops : Array Oper} {o : Oper} {a : Act} {K : Act → World → Prop} {Q : Exit → Act → World → Prop} {X : Prop}
    (hg : o.guard = none) (d x : Operand) (dT sT : TypeId) (hop : o.op = Op.call { callee := Callee.builtin Builtin.copy, args := #[d, x], argTypes := #[dT, sT] })
    (v u : Value) (hd : a.eval d = v) (hx : a.eval x = u) {v' : Value} {w' : World} (hr : (Builtin.copy_ #[dT, sT] o.type #[v, u]).run P w = .ok v' w') (hK : K (a.put o.dst v') w') :
    if Region.wanted o (yielded ops a.tmps) = true then Oper.wp P o a w K Q else X := by
  have hw : Region.wanted o (yielded ops a.tmps) = true := by simp [Region.wanted, hg]
  rw [if_pos hw]
  unfold Oper.wp
  simp [execOp, hop, resolve, invoke, builtin, hd, hx, hr, Result.andThen]
  exact hK
theorem step_append_is {ops : Array Oper} {o : Oper} {a : Act} {K : Act → World → Prop} {Q : Exit → Act → World → Prop} {X : Prop}
    (hg : o.guard = none) (d x : Operand) (dT sT : TypeId) (hop : o.op = Op.call { callee := Callee.builtin Builtin.append, args := #[d, x], argTypes := #[dT, sT] })
    (v u : Value) (hd : a.eval d = v) (hx : a.eval x = u) {v' : Value} {w' : World} (hr : (Builtin.append_ #[dT, sT] o.type #[v, u]).run P w = .ok v' w') (hK : K (a.put o.dst v') w') :
    if Region.wanted o (yielded ops a.tmps) = true then Oper.wp P o a w K Q else X := by
  have hw : Region.wanted o (yielded ops a.tmps) = true := by simp [Region.wanted, hg]
  rw [if_pos hw]
  unfold Oper.wp
  simp [execOp, hop, resolve, invoke, builtin, hd, hx, hr, Result.andThen]
  exact hK
theorem wpList_clear_is {ops : Array Oper} {rest : List Oper} {o : Oper} {a : Act} {Q : Exit → Act → World → Prop} (hgd : o.guard = none) (d : Operand) (t : TypeId)
    (ho : o.op = .call { callee := .builtin .clear, args := #[d], argTypes := #[t] }) (v : Value) (hd : a.eval d = v) {v' : Value} {w' : World}
    (hr : (Builtin.clear_ #[t] o.type #[v]).run P w = .ok v' w') (h : wpList P ops Q rest (a.put o.dst v') w') : wpList P ops Q (o :: rest) a w :=
  wpList_plain hgd fun _ hK => by
    unfold Oper.wp execOp
    simp only [ho, resolve, invoke, builtin, Sem.run_bind, Sem.run_pure, Result.andThen_ok, List.map_toArray, List.map_cons, List.map_nil, hd, hr]
    exact hK _ _ h
end

/-- append, as a law for the walk, at an operation that stands behind a guard. -/
theorem wpList_growG {α : Type} {E : Ty α} {e T : TypeId} {w : World} {B : Nat} {C D : Blk} {v : Value} {l m : List α} {P : Program} {ops : Array Oper} {rest : List Oper} {o : Oper} {a : Act} {Q : Exit → Act → World → Prop} (hw : Region.wanted o (yielded ops a.tmps) = true) (s x : Operand)
    (ho : o.op = .call { callee := .builtin .append, args := #[s, x], argTypes := #[T, T] }) (hA : At P E T e) (hs : a.eval s = v) (h : Own E e w B C v l) {ao : Option Addr} {c n : Nat} (hx : a.eval x = .slice ao n c) (hnm : n = m.length) (hsrc : Src E w D ao m) (hc : ao = none → c = 0)
    (hD : ∀ k, D k → k < w.heap.size → C k ∧ some k ≠ v.ownBlock) (hn : l.length + m.length ≤ 1000000000000) (hB : B ≤ w.heap.size)
    (hK : ∀ v' w', Own E e w' B C v' (l ++ m) → w.grownBy w' v.ownBlock → wpList P ops Q rest (a.put o.dst v') w') : wpList P ops Q (o :: rest) a w := by
  refine wpList_step fun K hK' => ?_
  rw [if_pos hw]
  subst hnm
  obtain ⟨v', w', hrun, h1, h2, _⟩ := h.run hA hsrc hc o.type hD hn hB
  unfold Oper.wp
  simp [execOp, ho, resolve, invoke, builtin, hs, hx, hrun, Result.andThen]
  exact hK' _ _ (hK v' w' h1 h2)

/-! ### What is grown, as cells -/
section
variable {α : Type} {E : Ty α} {e T : TypeId} {P : Program} {w w' : World} {B : Nat} {C : Blk} {v : Value} {l : List α}

theorem Own.cells (h : Own E e w B C v l) (hl : 0 < l.length) : ∃ g cap cur xs, v = .slice (some ⟨g, 0, none⟩) l.length cap ∧ B ≤ g ∧ g < w.heap.size ∧ w.heap[g]? = some (.cells (cur : List Value).toArray e) ∧ l.length ≤ cap ∧ cap ≤ maxLen ∧ cur.length = cap * E.size ∧
    cur.take (l.length * E.size) = xs.flatten ∧ Each E w (fun k => C k ∧ k ≠ g) xs l := by
  obtain ⟨xs, hr, hE⟩ := h
  rcases hr.2 with ⟨rfl, h0⟩ | ⟨g, cap, cur, rfl, hb, hg, h1, h2, h3, h4⟩
  · omega
  · refine ⟨g, cap, cur.toList, xs, rfl, hb, (Array.getElem?_eq_some_iff.1 hg).1, by simpa using hg, h1, h2, by simpa using h3, h4, ?_⟩
    exact hE.mono fun k hk _ => ⟨hk.1, fun e => hk.2 (by rw [e]; rfl)⟩
theorem Own.of_cells {g cap : Nat} {cur : List Value} {xs : List (List Value)} (hb : B ≤ g) (hg : w.heap[g]? = some (.cells cur.toArray e)) (h1 : l.length ≤ cap) (h2 : cap ≤ maxLen) (h3 : cur.length = cap * E.size)
    (h4 : cur.take (l.length * E.size) = xs.flatten) (hE : Each E w (fun k => C k ∧ k ≠ g) xs l) : Own E e w B C (.slice (some ⟨g, 0, none⟩) l.length cap) l := by
  refine ⟨xs, ⟨hE.flatLen, .inr ⟨g, cap, cur.toArray, rfl, hb, hg, h1, h2, by simpa using h3, by simpa using h4⟩⟩, hE.mono fun k hk _ => ⟨hk.1, ?_⟩⟩
  intro e
  exact hk.2 (Option.some.inj e)

theorem Each.take {xs : List (List Value)} {D : Blk} (h : Each E w D xs l) (n : Nat) : Each E w D (xs.take n) (l.take n) := by
  refine ⟨by simp [h.1], fun i cs a hc ha => ?_⟩
  rw [List.getElem?_take] at hc ha
  split at hc
  · rename_i hi
    rw [if_pos hi] at ha
    exact h.2 i cs a hc ha
  · cases hc
theorem Each.drop {xs : List (List Value)} {D : Blk} (h : Each E w D xs l) (n : Nat) : Each E w D (xs.drop n) (l.drop n) := by
  refine ⟨by simp [h.1], fun i cs a hc ha => ?_⟩
  rw [List.getElem?_drop] at hc ha
  exact h.2 _ cs a hc ha

theorem setRow_size (w : World) (g : Nat) (cs : Array Value) : (w.setRow g cs).heap.size = w.heap.size := by simp [World.setRow]
theorem setRow_grown (w : World) (g : Nat) (cs : Array Value) : w.grownBy (w.setRow g cs) (some g) := ⟨rfl, rfl, rfl, by rw [setRow_size]; exact Nat.le_refl _, fun k _ hk => setRow_other w g k cs (fun e => hk (by rw [e]))⟩
end

end Go.Pch
end

section
namespace Go.Pch
open Go.RowKit

theorem Own.setPart {α : Type} {E : Ty α} {e : TypeId} {w : World} {B : Nat} {C : Blk} {v : Value} {l : List α} (h : Own E e w B C v l) {i : Nat} {a : α} (hi : l[i]? = some a) :
    ∃ g cap cs, v = .slice (some ⟨g, 0, none⟩) l.length cap ∧ l.length ≤ cap ∧ cap ≤ maxLen ∧ B ≤ g ∧ g < w.heap.size ∧ E.rd w (fun k => C k ∧ k ≠ g) cs a ∧ (∀ j u, cs[j]? = some u → w.cell? ⟨g, i * E.size + j, none⟩ = some u) ∧ (∀ j, w.frozen? ⟨g, j, none⟩ = false) ∧
      ∀ j u' a', j < E.size → E.rd w (fun k => C k ∧ k ≠ g) (cs.set j u') a' → Own E e (w.setCell ⟨g, i * E.size + j, none⟩ u') B C v (l.set i a') := by
  have hil := (List.getElem?_eq_some_iff.1 hi).1
  obtain ⟨g, cap, cur, xs, rfl, hB, hg, hc, h1, h2, h3, h4, hX⟩ := h.cells (by omega)
  have hxl := hX.1
  obtain ⟨cs, hcs⟩ : ∃ cs, xs[i]? = some cs := ⟨xs[i]'(by omega), List.getElem?_eq_getElem _⟩
  have hrd := hX.2 i cs a hcs hi
  have hlen : cs.length = E.size := E.len hrd
  have hsz := E.pos
  have hcurget : ∀ m, m < l.length * E.size → cur[m]? = (xs[m / E.size]?).bind (·[m % E.size]?) := fun m hm => by
    have hf := flatten_get E.pos xs hX.lens m
    rw [← h4, List.getElem?_take_of_lt hm] at hf
    exact hf
  have hpos : ∀ j, j < E.size → i * E.size + j < l.length * E.size := fun j hj => by
    have : (i + 1) * E.size ≤ l.length * E.size := Nat.mul_le_mul_right _ hil
    rw [Nat.add_mul, Nat.one_mul] at this
    omega
  have hdm : ∀ j, j < E.size → (i * E.size + j) / E.size = i ∧ (i * E.size + j) % E.size = j := fun j hj =>
    ⟨by rw [Nat.mul_comm, Nat.mul_add_div E.pos, Nat.div_eq_of_lt hj]; rfl, by rw [Nat.mul_comm, Nat.mul_add_mod, Nat.mod_eq_of_lt hj]⟩
  have hcell : ∀ j u, cs[j]? = some u → w.cell? ⟨g, i * E.size + j, none⟩ = some u := fun j u hj => by
    have hjl := (List.getElem?_eq_some_iff.1 hj).1
    obtain ⟨d1, d2⟩ := hdm j (by omega)
    have := hcurget (i * E.size + j) (hpos j (by omega))
    rw [d1, d2, hcs] at this
    rw [World.cell?, hc]
    simpa using this.trans hj
  refine ⟨g, cap, cs, rfl, h1, h2, hB, hg, hrd, hcell, fun j => frozen_of_row w g j _ _ hc, fun j u' a' hj hu' => ?_⟩
  have hkeep : ∀ k, (fun k => C k ∧ k ≠ g) k → k < w.heap.size → (w.setCell ⟨g, i * E.size + j, none⟩ u').heap[k]? = w.heap[k]? := fun k hk _ => heap_setCell_other _ _ _ _ (by simpa using hk.2)
  have hnew : Own E e (w.setCell ⟨g, i * E.size + j, none⟩ u') B C (.slice (some ⟨g, 0, none⟩) (l.set i a').length cap) (l.set i a') := by
    refine Own.of_cells (cur := cur.set (i * E.size + j) u') (xs := xs.set i (cs.set j u')) hB ?_ (by simpa using h1) h2 (by rw [List.length_set]; exact h3) ?_ ⟨by simp [hX.1], fun m cs' a2 hj1 hj2 => ?_⟩
    · have := heap_setCell_same w g (i * E.size + j) _ e u' hc
      refine (show _ = _ from this).trans ?_
      simp
    · rw [List.length_set]
      refine List.ext_getElem? fun m => ?_
      have hf := flatten_get E.pos (xs.set i (cs.set j u')) (fun c hc => by
        rcases List.mem_or_eq_of_mem_set hc with h | rfl
        · exact hX.lens c h
        · rw [List.length_set]; exact hlen) m
      rw [hf, List.getElem?_take]
      by_cases hm : m < l.length * E.size
      · rw [if_pos hm]
        have hdiv : m / E.size * E.size + m % E.size = m := Nat.div_add_mod' m E.size
        have hmod : m % E.size < E.size := Nat.mod_lt _ E.pos
        by_cases hmi : i = m / E.size
        · have hset : (xs.set i (cs.set j u'))[m / E.size]? = some (cs.set j u') := by rw [← hmi]; exact List.getElem?_set_self (by omega)
          rw [hset]
          show _ = (cs.set j u')[m % E.size]?
          by_cases hmj : j = m % E.size
          · have hp : i * E.size + j = m := by rw [hmi, hmj]; exact hdiv
            rw [hp, List.getElem?_set_self (by rw [h3]; have := Nat.mul_le_mul_right E.size h1; omega), hmj, List.getElem?_set_self (by omega)]
          · have hp : i * E.size + j ≠ m := fun e => hmj (by rw [← e]; exact ((hdm j hj).2).symm)
            rw [List.getElem?_set_ne hp, List.getElem?_set_ne hmj, hcurget m hm, ← hmi, hcs]
            rfl
        · have hp : i * E.size + j ≠ m := fun e => hmi (by rw [← e]; exact ((hdm j hj).1).symm)
          rw [List.getElem?_set_ne hp, List.getElem?_set_ne hmi]
          exact hcurget m hm
      · rw [if_neg hm, List.getElem?_eq_none (by
          rw [List.length_set, hX.1]
          exact (Nat.le_div_iff_mul_le E.pos).2 (by omega))]
        rfl
    · by_cases hmi : i = m
      · subst hmi
        rw [List.getElem?_set_self (by rw [hX.1]; exact hil)] at hj1
        rw [List.getElem?_set_self hil] at hj2
        obtain rfl := Option.some.inj hj1
        obtain rfl := Option.some.inj hj2
        exact E.keep hu' hkeep
      · rw [List.getElem?_set_ne hmi] at hj1 hj2
        exact E.keep (hX.2 m cs' a2 hj1 hj2) hkeep
  rwa [List.length_set] at hnew

/-- The elements of a grown slice may read by way of other blocks than it was known. -/
theorem Own.regard {α : Type} {E : Ty α} {e : TypeId} {w : World} {B : Nat} {C D : Blk} {v : Value} {l : List α} (h : Own E e w B C v l)
    (hJ : ∀ g cap, v = .slice (some ⟨g, 0, none⟩) l.length cap → ∀ i a, l[i]? = some a → ∃ cs, cs.length = E.size ∧ (∀ j u, cs[j]? = some u → w.cell? ⟨g, i * E.size + j, none⟩ = some u) ∧ E.rd w (fun k => D k ∧ k ≠ g) cs a) : Own E e w B D v l := by
  obtain ⟨xs, hr, hE⟩ := h
  refine ⟨xs, hr, hE.1, fun i cs a h1 h2 => ?_⟩
  have hil := (List.getElem?_eq_some_iff.1 h2).1
  have hr0 := hr
  rcases hr.2 with ⟨rfl, h0⟩ | ⟨g, cap, cur, rfl, hb, hg, _, _, h3, h4⟩
  · have := List.eq_nil_of_length_eq_zero h0
    subst this
    simp at h2
  · obtain ⟨cs', hl', hc', hrd⟩ := hJ g cap rfl i a h2
    have hsz : cs.length = E.size := hE.lens cs (List.mem_of_getElem? h1)
    have he : cs' = cs := by
      refine List.ext_getElem? fun j => ?_
      by_cases hj : j < E.size
      · have hu : cs[j]? = some (cs[j]'(by omega)) := List.getElem?_eq_getElem _
        have := hr0.cells (g := g) rfl (i * E.size + j) (cs[j]'(by omega)) (by
          rw [flatten_get E.pos xs hE.lens]
          have e1 : (i * E.size + j) / E.size = i := by
            rw [Nat.mul_comm, Nat.mul_add_div E.pos, Nat.div_eq_of_lt (by omega)]; rfl
          have e2 : (i * E.size + j) % E.size = j := by
            rw [Nat.mul_comm, Nat.mul_add_mod, Nat.mod_eq_of_lt (by omega)]
          rw [e1, e2, h1]
          exact hu)
        have h2' := hc' j (cs'[j]'(by omega)) (List.getElem?_eq_getElem _)
        rw [Addr.add_lit, Nat.zero_add, h2'] at this
        rw [hu, List.getElem?_eq_getElem (by omega)]
        exact this
      · rw [List.getElem?_eq_none (by omega), List.getElem?_eq_none (by omega)]
    subst he
    exact E.mono hrd fun k hk _ => ⟨hk.1, by simpa [Value.ownBlock] using hk.2⟩

end Go.Pch
end
