/- copy, append and clear inside a slice of the call's own, as runs on lists of cells; no program is named here. Plain words of chapter 8 (commits) on lists; no program is named here. -/
import Derived.Test.YtdclpbdmdpakkaaMm2
import Derived.Laws.CopyRow
import Derived.Laws.CopyOwn
import Derived.Lib.AppendZerosOnto
import Derived.Lib.SliceRun
import Derived.Deep.RegionLaw
import Derived.Test.YtdclpbdmdpakkaaMm1
section
namespace Go.Pch
open Go.RowKit

/-- Cells, some of which are written over. -/
def seg (cur : List Value) (o : Nat) (cs : List Value) : List Value := cur.take o ++ cs ++ cur.drop (o + cs.length)
theorem seg_len {cur cs : List Value} {o : Nat} (h : o + cs.length ≤ cur.length) : (seg cur o cs).length = cur.length := by
  simp [seg]; omega
theorem seg_take {cur : List Value} {o : Nat} (cs : List Value) (h : o ≤ cur.length) : (seg cur o cs).take o = cur.take o := by
  rw [seg, List.append_assoc, List.take_append_of_le_length (by simp; omega), List.take_take, Nat.min_self]
theorem seg_nil (cur : List Value) (o : Nat) : seg cur o [] = cur := by simp [seg]

section
variable {α : Type} {E : Ty α} {e T : TypeId} {P : Program} {w : World}

theorem run_copy_seg (hA : At P E T e) {g o dLen dCap : Nat} {a : Addr} {sLen sCap n : Nat} {cur : List Value} {t : TypeId} {cs : List Value} (hg : w.heap[g]? = some (.cells cur.toArray t)) (hn : Nat.min sLen dLen = n) (hl : cs.length = n * E.size)
    (hsrc : ∀ j v, cs[j]? = some v → w.cell? (a.add j) = some v) (hfit : o + cs.length ≤ cur.length) (h1 : ∀ v ∈ cs, v.oneCell' = true) (ty : TypeId) :
    (Builtin.copy_ #[T, T] ty #[.slice (some ⟨g, o, none⟩) dLen dCap, .slice (some a) sLen sCap]).run P w = .ok (goInt n) (w.setRow g (seg cur o cs).toArray) := by
  obtain ⟨q, z, i1, i2, i3, i4, i5⟩ := hA.info
  have hl' := run_loadCells_list (P := P) w a cs hsrc
  have hst := run_storeCells_at P g o t cs 0 cur.toArray w hg (by simpa using hfit) h1
  simp only [Nat.add_zero] at hst
  simp [Builtin.copy_, run_underlying hA.und, Builtin.lenOf, Builtin.firstCells, sizeOf, typeInfo, i1, i3, hn, ← hl, hl', hst, seg]

theorem run_append_seg (hA : At P E T e) {g i cap m c : Nat} {a : Addr} {cur : List Value} {t : TypeId} {cs : List Value} (hg : w.heap[g]? = some (.cells cur.toArray t)) (hl : cs.length = m * E.size)
    (hsrc : ∀ j v, cs[j]? = some v → w.cell? (a.add j) = some v) (hroom : i + m ≤ cap) (hfit : i * E.size + cs.length ≤ cur.length) (h1 : ∀ v ∈ cs, v.oneCell' = true) (ty : TypeId) :
    (Builtin.append_ #[T, T] ty #[.slice (some ⟨g, 0, none⟩) i cap, .slice (some a) m c]).run P w = .ok (.slice (some ⟨g, 0, none⟩) (i + m) cap) (w.setRow g (seg cur (i * E.size) cs).toArray) := by
  obtain ⟨q, z, i1, i2, i3, i4, i5⟩ := hA.info
  have hl' := run_loadCells_list (P := P) w a cs hsrc
  have hst := run_storeCells_at P g (i * E.size) t cs 0 cur.toArray w hg (by simpa using hfit) h1
  simp only [Nat.add_zero] at hst
  have hadd : (⟨g, 0, none⟩ : Addr).add (i * E.size) = ⟨g, i * E.size, none⟩ := by rw [Addr.add_lit, Nat.zero_add]
  simp [Builtin.append_, run_underlying hA.und, Builtin.lenOf, Builtin.firstCells, sizeOf, typeInfo, i1, i3, hroom, ← hl, hl', hadd, hst, seg]

theorem run_clear_seg (hA : At P E T e) {g o n c : Nat} {cur : List Value} {t : TypeId} (hg : w.heap[g]? = some (.cells cur.toArray t)) (hn : 0 < n) (hfit : o + n * E.size ≤ cur.length)
    (hz : ∃ z, (P.info? e).map (·.zero) = some (some z) ∧ ∀ u ∈ z.cells.toList, u.oneCell' = true) :
    ∃ zs : List Value, zs.length = n * E.size ∧ ∀ ty, (Builtin.clear_ #[T] ty #[.slice (some ⟨g, o, none⟩) n c]).run P w = .ok (.tuple #[]) (w.setRow g (seg cur o zs).toArray) := by
  obtain ⟨q, z, i1, i2, i3, i4, i5⟩ := hA.info
  obtain ⟨z', hz1, hz2⟩ := hz
  rw [i1] at hz1
  simp only [Option.map_some, Option.some.injEq, i2] at hz1
  subst hz1
  have hlen : (Builtin.zeroCells z.cells n).toList.length = n * E.size := by simp [Builtin.zeroCells, i4]
  have hpos := E.pos
  have hone : ∀ u ∈ (Builtin.zeroCells z.cells n).toList, u.oneCell' = true := by
    intro u hu
    simp only [Builtin.zeroCells, Array.toList_map, List.mem_map, Array.toList_range, List.mem_range] at hu
    obtain ⟨i, _, rfl⟩ := hu
    refine hz2 _ ?_
    rw [i4, getElem!_pos z.cells (i % E.size) (by rw [i4]; exact Nat.mod_lt _ hpos)]
    simp
  have hst := run_storeCells_at P g o t (Builtin.zeroCells z.cells n).toList 0 cur.toArray w hg (by rw [hlen]; simpa using hfit) hone
  simp only [Nat.add_zero] at hst
  refine ⟨_, hlen, fun ty => ?_⟩
  obtain ⟨m, rfl⟩ : ∃ m, n = m + 1 := ⟨n - 1, by omega⟩
  simp [Builtin.clear_, run_underlying hA.und, zeroValue, typeInfo, i1, i2, hst, seg]

/-- s[lo:hi:max]: the bounds fit. -/
theorem run_cut3 (hA : At P E T e) (ao : Option Addr) (len cap lo hi mx : Nat) (a b c : Int) (ha : a = lo) (hb : b = hi) (hc : c = mx) (h1 : lo ≤ hi) (h2 : hi ≤ mx) (h3 : mx ≤ cap) :
    ∃ v, ∀ W, Sem.run P (Instr.slice T (.slice ao len cap) (some (.int .i64 a)) (some (.int .i64 b)) (some (.int .i64 c))) W = .ok v W := by
  obtain ⟨q, z, i1, i2, i3, i4, i5⟩ := hA.info
  subst ha hb hc
  have a1 : ¬ hi < lo := by omega
  have a2 : ¬ mx < hi := by omega
  have a3 : ¬ cap < mx := by omega
  exact ⟨_, fun W => by simp [Instr.slice, run_underlying hA.und, Instr.sliceBounds, Instr.sliceBound, asIntOf, sizeOf, typeInfo, i1, i3, h1, h2, h3]; rfl⟩

theorem cutAddr_zero (g o cap s : Nat) : cutAddr (some ⟨g, o, none⟩) cap 0 s = some ⟨g, o, none⟩ := by
  unfold cutAddr
  split
  · rfl
  · simp [Addr.add_lit]
theorem cutAddr_on {g o cap lo s : Nat} (h : cap ≠ lo) : cutAddr (some ⟨g, o, none⟩) cap lo s = some ⟨g, o + lo * s, none⟩ := by
  unfold cutAddr
  rw [if_neg h]
  simp [Addr.add_lit]
/-- A piece's cells. -/
theorem cut_src {g cap lo s : Nat} {cur cs : List Value} {t : TypeId} (hg : w.heap[g]? = some (.cells cur.toArray t)) (hcs : ∀ j v, cs[j]? = some v → cur[lo * s + j]? = some v) (h0 : cap = lo → cs = []) :
    ∃ ad, cutAddr (some ⟨g, 0, none⟩) cap lo s = some ad ∧ ∀ j v, cs[j]? = some v → w.cell? (ad.add j) = some v := by
  by_cases h : cap = lo
  · refine ⟨⟨g, 0, none⟩, by unfold cutAddr; rw [if_pos h], fun j v hj => ?_⟩
    rw [h0 h] at hj
    simp at hj
  · refine ⟨⟨g, lo * s, none⟩, by rw [cutAddr_on h, Nat.zero_add], fun j v hj => ?_⟩
    rw [Addr.add_lit, World.cell?, hg]
    simpa using hcs j v hj

/-! ### Builtins whose run is known, as laws for the walk and for a drawn region -/
theorem wpList_copy_is {ops : Array Oper} {rest : List Oper} {o : Oper} {a : Go.Act} {Q : Exit → Go.Act → World → Prop} (hgd : o.guard = none) (d s : Operand) (t t' : TypeId)
    (ho : o.op = .call { callee := .builtin .copy, args := #[d, s], argTypes := #[t, t'] }) (v u : Value) (hd : a.eval d = v) (hs : a.eval s = u) {v' : Value} {w' : World}
    (hr : (Builtin.copy_ #[t, t'] o.type #[v, u]).run P w = .ok v' w') (h : wpList P ops Q rest (a.put o.dst v') w') : wpList P ops Q (o :: rest) a w :=
  wpList_plain hgd fun _ hK => by
    unfold Oper.wp execOp
    simp only [ho, resolve, invoke, builtin, Sem.run_bind, Sem.run_pure, Result.andThen_ok, List.map_toArray, List.map_cons, List.map_nil, hd, hs, hr]
    exact hK _ _ h
theorem step_copy_is {ops : Array Oper} {o : Oper} {a : Go.Act} {K : Go.Act → World → Prop} {Q : Exit → Go.Act → World → Prop} {X : Prop}
    (hg : o.guard = none) (d x : Operand) (dT sT : TypeId) (hop : o.op = Op.call { callee := Callee.builtin Builtin.copy, args := #[d, x], argTypes := #[dT, sT] })
    (v u : Value) (hd : a.eval d = v) (hx : a.eval x = u) {v' : Value} {w' : World} (hr : (Builtin.copy_ #[dT, sT] o.type #[v, u]).run P w = .ok v' w') (hK : K (a.put o.dst v') w') :
    if Region.wanted o (yielded ops a.tmps) = true then Oper.wp P o a w K Q else X := by
  have hw : Region.wanted o (yielded ops a.tmps) = true := by simp [Region.wanted, hg]
  rw [if_pos hw]
  unfold Oper.wp
  simp [execOp, hop, resolve, invoke, builtin, hd, hx, hr, Result.andThen]
  exact hK
theorem step_append_is {ops : Array Oper} {o : Oper} {a : Go.Act} {K : Go.Act → World → Prop} {Q : Exit → Go.Act → World → Prop} {X : Prop}
    (hg : o.guard = none) (d x : Operand) (dT sT : TypeId) (hop : o.op = Op.call { callee := Callee.builtin Builtin.append, args := #[d, x], argTypes := #[dT, sT] })
    (v u : Value) (hd : a.eval d = v) (hx : a.eval x = u) {v' : Value} {w' : World} (hr : (Builtin.append_ #[dT, sT] o.type #[v, u]).run P w = .ok v' w') (hK : K (a.put o.dst v') w') :
    if Region.wanted o (yielded ops a.tmps) = true then Oper.wp P o a w K Q else X := by
  have hw : Region.wanted o (yielded ops a.tmps) = true := by simp [Region.wanted, hg]
  rw [if_pos hw]
  unfold Oper.wp
  simp [execOp, hop, resolve, invoke, builtin, hd, hx, hr, Result.andThen]
  exact hK
theorem wpList_clear_is {ops : Array Oper} {rest : List Oper} {o : Oper} {a : Go.Act} {Q : Exit → Go.Act → World → Prop} (hgd : o.guard = none) (d : Operand) (t : TypeId)
    (ho : o.op = .call { callee := .builtin .clear, args := #[d], argTypes := #[t] }) (v : Value) (hd : a.eval d = v) {v' : Value} {w' : World}
    (hr : (Builtin.clear_ #[t] o.type #[v]).run P w = .ok v' w') (h : wpList P ops Q rest (a.put o.dst v') w') : wpList P ops Q (o :: rest) a w :=
  wpList_plain hgd fun _ hK => by
    unfold Oper.wp execOp
    simp only [ho, resolve, invoke, builtin, Sem.run_bind, Sem.run_pure, Result.andThen_ok, List.map_toArray, List.map_cons, List.map_nil, hd, hr]
    exact hK _ _ h
end

/-- append, as a law for the walk, at an operation that stands behind a guard. -/
theorem wpList_growG {α : Type} {E : Ty α} {e T : TypeId} {w : World} {B : Nat} {C D : Blk} {v : Value} {l m : List α} {P : Program} {ops : Array Oper} {rest : List Oper} {o : Oper} {a : Go.Act} {Q : Exit → Go.Act → World → Prop} (hw : Region.wanted o (yielded ops a.tmps) = true) (s x : Operand)
    (ho : o.op = .call { callee := .builtin .append, args := #[s, x], argTypes := #[T, T] }) (hA : At P E T e) (hs : a.eval s = v) (h : Own E e w B C v l) {ao : Option Addr} {c n : Nat} (hx : a.eval x = .slice ao n c) (hnm : n = m.length) (hsrc : Src E w D ao m) (hc : ao = none → c = 0)
    (hD : ∀ k, D k → k < w.heap.size → C k ∧ some k ≠ v.ownBlock) (hn : l.length + m.length ≤ 1000000000000) (hB : B ≤ w.heap.size)
    (hK : ∀ v' w', Own E e w' B C v' (l ++ m) → w.grownBy w' v.ownBlock → wpList P ops Q rest (a.put o.dst v') w') : wpList P ops Q (o :: rest) a w := by
  refine wpList_step fun K hK' => ?_
  rw [if_pos hw]
  subst hnm
  obtain ⟨v', w', hrun, h1, h2, _⟩ := h.run hA hsrc hc o.type hD hn hB
  unfold Oper.wp
  simp [execOp, ho, resolve, invoke, builtin, hs, hx, hrun, Result.andThen]
  exact hK' _ _ (hK v' w' h1 h2)

/-! ### What is grown, as cells -/
section
variable {α : Type} {E : Ty α} {e T : TypeId} {P : Program} {w w' : World} {B : Nat} {C : Blk} {v : Value} {l : List α}

theorem Own.cells (h : Own E e w B C v l) (hl : 0 < l.length) : ∃ g cap cur xs, v = .slice (some ⟨g, 0, none⟩) l.length cap ∧ B ≤ g ∧ g < w.heap.size ∧ w.heap[g]? = some (.cells (cur : List Value).toArray e) ∧ l.length ≤ cap ∧ cap ≤ maxLen ∧ cur.length = cap * E.size ∧
    cur.take (l.length * E.size) = xs.flatten ∧ Each E w (fun k => C k ∧ k ≠ g) xs l := by
  obtain ⟨xs, hr, hE⟩ := h
  rcases hr.2 with ⟨rfl, h0⟩ | ⟨g, cap, cur, rfl, hb, hg, h1, h2, h3, h4⟩
  · omega
  · refine ⟨g, cap, cur.toList, xs, rfl, hb, (Array.getElem?_eq_some_iff.1 hg).1, by simpa using hg, h1, h2, by simpa using h3, h4, ?_⟩
    exact hE.mono fun k hk _ => ⟨hk.1, fun e => hk.2 (by rw [e]; rfl)⟩
theorem Own.of_cells {g cap : Nat} {cur : List Value} {xs : List (List Value)} (hb : B ≤ g) (hg : w.heap[g]? = some (.cells cur.toArray e)) (h1 : l.length ≤ cap) (h2 : cap ≤ maxLen) (h3 : cur.length = cap * E.size)
    (h4 : cur.take (l.length * E.size) = xs.flatten) (hE : Each E w (fun k => C k ∧ k ≠ g) xs l) : Own E e w B C (.slice (some ⟨g, 0, none⟩) l.length cap) l := by
  refine ⟨xs, ⟨hE.flatLen, .inr ⟨g, cap, cur.toArray, rfl, hb, hg, h1, h2, by simpa using h3, by simpa using h4⟩⟩, hE.mono fun k hk _ => ⟨hk.1, ?_⟩⟩
  intro e
  exact hk.2 (Option.some.inj e)

theorem Each.take {xs : List (List Value)} {D : Blk} (h : Each E w D xs l) (n : Nat) : Each E w D (xs.take n) (l.take n) := by
  refine ⟨by simp [h.1], fun i cs a hc ha => ?_⟩
  rw [List.getElem?_take] at hc ha
  split at hc
  · rename_i hi
    rw [if_pos hi] at ha
    exact h.2 i cs a hc ha
  · cases hc
theorem Each.drop {xs : List (List Value)} {D : Blk} (h : Each E w D xs l) (n : Nat) : Each E w D (xs.drop n) (l.drop n) := by
  refine ⟨by simp [h.1], fun i cs a hc ha => ?_⟩
  rw [List.getElem?_drop] at hc ha
  exact h.2 _ cs a hc ha

theorem setRow_size (w : World) (g : Nat) (cs : Array Value) : (w.setRow g cs).heap.size = w.heap.size := by simp [World.setRow]
theorem setRow_grown (w : World) (g : Nat) (cs : Array Value) : w.grownBy (w.setRow g cs) (some g) := ⟨rfl, rfl, rfl, by rw [setRow_size]; exact Nat.le_refl _, fun k _ hk => setRow_other w g k cs (fun e => hk (by rw [e]))⟩
end

end Go.Pch
end

section
namespace Go.Pch

/-- A commit: its rows, its parents. -/
abbrev Commit := List Row × List Int

/-- Parents rise behind 'last', below n. -/
def risePB (n : Int) : Int → List Int → Bool
  | _, [] => true
  | last, p :: l => !(decide (p ≤ last) || decide (n ≤ p)) && risePB n p l
/-- H1, of one commit, whose number is n. -/
def commitErr (n : Int) (c : Commit) : Int := if rowsErr c.1 ≠ 0 then rowsErr c.1 else if decide (c.2.length ≤ 2) && risePB n (-1) c.2 then 0 else 1
/-- H1, from number n on. -/
def commitsFrom : Int → List Commit → Int
  | _, [] => 0
  | n, c :: l => if commitErr n c ≠ 0 then commitErr n c else commitsFrom (n + 1) l
/-- H1. -/
def commitsErr (l : List Commit) : Int := if 14 < l.length then 2 else commitsFrom 0 l

theorem risePB_cons {n last p : Int} {l : List Int} : risePB n last (p :: l) = true ↔ (last < p ∧ p < n) ∧ risePB n p l = true := by
  simp only [risePB, Bool.and_eq_true, Bool.not_eq_true', Bool.or_eq_false_iff, decide_eq_false_iff_not, Int.not_le]
theorem risePB_go {n m : Int} {l : List Int} {k : Nat} (hk : k < l.length) (h : m < l[k] ∧ l[k] < n) : risePB n m (l.drop k) = risePB n l[k] (l.drop (k + 1)) := by
  rw [List.drop_eq_getElem_cons hk, Bool.eq_iff_iff, risePB_cons]
  exact ⟨fun h => h.2, fun g => ⟨h, g⟩⟩
theorem risePB_stop {n m : Int} {l : List Int} {k : Nat} (hk : k < l.length) (h : l[k] ≤ m ∨ n ≤ l[k]) : risePB n m (l.drop k) = false := by
  rw [List.drop_eq_getElem_cons hk, Bool.eq_false_iff]
  intro g
  have := (risePB_cons.1 g).1
  omega
theorem risePB_end {n m : Int} {l : List Int} {k : Nat} (hk : ¬ k < l.length) : risePB n m (l.drop k) = true := by
  rw [List.drop_of_length_le (by omega)]; rfl

theorem commitsFrom_go {l : List Commit} {k : Nat} (hk : k < l.length) (h : commitErr (k : Int) l[k] = 0) : commitsFrom (k : Int) (l.drop k) = commitsFrom ((k + 1 : Nat) : Int) (l.drop (k + 1)) := by
  rw [List.drop_eq_getElem_cons hk, commitsFrom, if_neg (by simpa using h)]
  congr 1
theorem commitsFrom_stop {l : List Commit} {k : Nat} (hk : k < l.length) (h : commitErr (k : Int) l[k] ≠ 0) : commitsFrom (k : Int) (l.drop k) = commitErr (k : Int) l[k] := by
  rw [List.drop_eq_getElem_cons hk, commitsFrom, if_pos h]
theorem commitsFrom_end {l : List Commit} {k : Nat} (hk : ¬ k < l.length) (n : Int) : commitsFrom n (l.drop k) = 0 := by
  rw [List.drop_of_length_le (by omega)]; rfl

/-- The parents of number n. -/
def pars (l : List Commit) (n : Nat) : List Int := (l[n]?.getD ([], [])).2

/-- Are all commits right? -/
def DagOk (l : List Commit) : Prop := l.length ≤ 14 ∧ ∀ (n : Nat) (c : Commit), l[n]? = some c → rowsErr c.1 = 0 ∧ c.2.length ≤ 2 ∧ risePB n (-1) c.2 = true
theorem commitErr_zero {n : Int} {c : Commit} (h : commitErr n c = 0) : rowsErr c.1 = 0 ∧ c.2.length ≤ 2 ∧ risePB n (-1) c.2 = true := by
  unfold commitErr at h
  split at h
  · rename_i h1; exact absurd h h1
  · rename_i h1
    split at h
    · rename_i h2
      simp only [Bool.and_eq_true, decide_eq_true_eq] at h2
      exact ⟨by simpa using h1, h2.1, h2.2⟩
    · cases h
theorem commitsFrom_zero : ∀ (l : List Commit) (m : Nat), commitsFrom m l = 0 → ∀ n c, l[n]? = some c → commitErr ((m + n : Nat) : Int) c = 0
  | [], _, _, n, c, hc => by simp at hc
  | d :: l, m, h, n, c, hc => by
    rw [commitsFrom] at h
    split at h
    · rename_i h1; exact absurd h h1
    · rename_i h1
      cases n with
      | zero => simp at hc; subst hc; simpa using h1
      | succ n =>
        have := commitsFrom_zero l (m + 1) (by simpa using h) n c (by simpa using hc)
        rwa [show m + (n + 1) = m + 1 + n by omega]
theorem dag_ok {l : List Commit} (h : commitsErr l = 0) : DagOk l := by
  unfold commitsErr at h
  split at h
  · cases h
  · refine ⟨by omega, fun n c hc => ?_⟩
    have := commitsFrom_zero l 0 h n c hc
    rw [Nat.zero_add] at this
    exact commitErr_zero this

theorem risePB_mem {n : Int} : ∀ {l : List Int} {last : Int}, risePB n last l = true → ∀ p ∈ l, last < p ∧ p < n
  | [], _, _, p, hp => by simp at hp
  | q :: l, last, h, p, hp => by
    rw [risePB_cons] at h
    rcases List.mem_cons.1 hp with rfl | hp
    · exact h.1
    · have := risePB_mem h.2 p hp
      omega
theorem pars_lt {l : List Commit} (h : DagOk l) {n : Nat} {p : Int} (hp : p ∈ pars l n) : 0 ≤ p ∧ p < n ∧ n < l.length := by
  unfold pars at hp
  cases hc : l[n]? with
  | none => simp [hc] at hp
  | some c =>
    rw [hc] at hp
    have := risePB_mem (h.2 n c hc).2.2 p hp
    have := (List.getElem?_eq_some_iff.1 hc).1
    omega

/-- Is k above n (f: fuel)? -/
def abF (l : List Commit) : Nat → Nat → Nat → Bool
  | 0, n, k => k == n
  | f + 1, n, k => k == n || (pars l n).any fun p => abF l f p.toNat k
/-- H2: is k above n: is it n, or a parent of one that is? -/
def ab (l : List Commit) (n k : Nat) : Bool := abF l n n k

theorem abF_more {l : List Commit} (h : DagOk l) : ∀ (f g n k : Nat), n ≤ f → n ≤ g → abF l f n k = abF l g n k
  | 0, 0, _, _, _, _ => rfl
  | 0, g + 1, n, k, h1, _ => by
    obtain rfl : n = 0 := by omega
    have : pars l 0 = [] := by
      cases hp : pars l 0 with
      | nil => rfl
      | cons p _ => have := pars_lt h (n := 0) (p := p) (by rw [hp]; simp); omega
    simp [abF, this]
  | f + 1, 0, n, k, _, h2 => by
    obtain rfl : n = 0 := by omega
    have : pars l 0 = [] := by
      cases hp : pars l 0 with
      | nil => rfl
      | cons p _ => have := pars_lt h (n := 0) (p := p) (by rw [hp]; simp); omega
    simp [abF, this]
  | f + 1, g + 1, n, k, h1, h2 => by
    rw [abF, abF]
    congr 1
    rw [Bool.eq_iff_iff, List.any_eq_true, List.any_eq_true]
    constructor
    · rintro ⟨p, hp, hk⟩
      have := pars_lt h hp
      exact ⟨p, hp, by rw [← abF_more h f g p.toNat k (by omega) (by omega)]; exact hk⟩
    · rintro ⟨p, hp, hk⟩
      have := pars_lt h hp
      exact ⟨p, hp, by rw [abF_more h f g p.toNat k (by omega) (by omega)]; exact hk⟩
theorem ab_eq {l : List Commit} (h : DagOk l) (n k : Nat) : ab l n k = (k == n || (pars l n).any fun p => ab l p.toNat k) := by
  rw [ab, abF_more h n (n + 1) n k (by omega) (by omega), abF]
  congr 1
  rw [Bool.eq_iff_iff, List.any_eq_true, List.any_eq_true]
  constructor
  · rintro ⟨p, hp, hk⟩
    have := pars_lt h hp
    exact ⟨p, hp, by rw [ab, abF_more h _ n _ _ (by omega) (by omega)]; exact hk⟩
  · rintro ⟨p, hp, hk⟩
    have := pars_lt h hp
    exact ⟨p, hp, by rw [ab, abF_more h _ n _ _ (by omega) (by omega)] at hk; exact hk⟩
theorem ab_self {l : List Commit} (h : DagOk l) (n : Nat) : ab l n n = true := by rw [ab_eq h]; simp
theorem ab_le {l : List Commit} (h : DagOk l) : ∀ (n k : Nat), ab l n k = true → k ≤ n := by
  intro n
  induction n using Nat.strongRecOn with
  | _ n ih =>
    intro k hk
    rw [ab_eq h, Bool.or_eq_true, List.any_eq_true] at hk
    rcases hk with hk | ⟨p, hp, hk⟩
    · simp at hk; omega
    · have := pars_lt h hp
      have := ih p.toNat (by omega) k hk
      omega
theorem ab_trans {l : List Commit} (h : DagOk l) : ∀ (n k m : Nat), ab l n k = true → ab l k m = true → ab l n m = true := by
  intro n
  induction n using Nat.strongRecOn with
  | _ n ih =>
    intro k m hk hm
    rw [ab_eq h, Bool.or_eq_true, List.any_eq_true] at hk
    rcases hk with hk | ⟨p, hp, hk⟩
    · simp at hk; subst hk; exact hm
    · have := pars_lt h hp
      rw [ab_eq h, Bool.or_eq_true, List.any_eq_true]
      exact .inr ⟨p, hp, ih p.toNat (by omega) k m hk hm⟩
/-- The last step: who is above n, and is not n, is a parent of one that is above n. -/
theorem ab_last {l : List Commit} (h : DagOk l) : ∀ (n k : Nat), ab l n k = true → k = n ∨ ∃ i, ab l n i = true ∧ (k : Int) ∈ pars l i := by
  intro n
  induction n using Nat.strongRecOn with
  | _ n ih =>
    intro k hk
    rw [ab_eq h, Bool.or_eq_true, List.any_eq_true] at hk
    rcases hk with hk | ⟨p, hp, hk⟩
    · exact .inl (by simpa using hk)
    · have hl := pars_lt h hp
      right
      have hpn : ab l n p.toNat = true := by rw [ab_eq h, Bool.or_eq_true, List.any_eq_true]; exact .inr ⟨p, hp, ab_self h _⟩
      rcases ih p.toNat (by omega) k hk with rfl | ⟨i, hi, hki⟩
      · exact ⟨n, ab_self h n, by rw [Int.toNat_of_nonneg hl.1]; exact hp⟩
      · exact ⟨i, ab_trans h n p.toNat i hpn hi, hki⟩
theorem ab_step {l : List Commit} (h : DagOk l) {n i : Nat} {p : Int} (hi : ab l n i = true) (hp : p ∈ pars l i) : ab l n p.toNat = true :=
  ab_trans h n i p.toNat hi (by rw [ab_eq h, Bool.or_eq_true, List.any_eq_true]; exact .inr ⟨p, hp, ab_self h _⟩)

/-- H2: Above's answer, of right commits. -/
def aboveL (l : List Commit) (n : Nat) : List Bool := (List.range l.length).map (ab l n)
/-- H2: Bases, of right commits: both's, and above no other one that is. -/
def baseB (l : List Commit) (a b k : Nat) : Bool := ab l a k && ab l b k && !((List.range l.length).any fun i => decide (k < i) && (ab l a i && ab l b i) && ab l i k)
def basesL (l : List Commit) (a b : Nat) : List Int := ((List.range l.length).filter (baseB l a b)).map Int.ofNat
/-- Check, and is there such a commit? -/
def thereErr (l : List Commit) (n : Int) : Int := if commitsErr l ≠ 0 then commitsErr l else if decide (0 ≤ n) && decide (n < l.length) then 0 else 5

/-- The set of those above n, as a number (f: fuel). -/
def ofF (l : List Commit) : Nat → Nat → Nat
  | 0, n => 2 ^ n
  | f + 1, n => (pars l n).foldl (fun s p => s ||| ofF l f p.toNat) (2 ^ n)
theorem foldl_or_bit (f : Int → Nat) (k : Nat) : ∀ (l : List Int) (s : Nat), (l.foldl (fun s p => s ||| f p) s).testBit k = (s.testBit k || l.any fun p => (f p).testBit k)
  | [], s => by simp
  | p :: l, s => by
    rw [List.foldl_cons, foldl_or_bit f k l, Nat.testBit_or, List.any_cons, Bool.or_assoc]
theorem ofF_bit (l : List Commit) : ∀ (f n k : Nat), (ofF l f n).testBit k = abF l f n k
  | 0, n, k => by
    rw [ofF, abF, Nat.testBit_two_pow, Bool.eq_iff_iff, decide_eq_true_eq, beq_iff_eq]
    exact eq_comm
  | f + 1, n, k => by
    rw [ofF, abF, foldl_or_bit, Nat.testBit_two_pow]
    congr 1
    · rw [Bool.eq_iff_iff, decide_eq_true_eq, beq_iff_eq]; exact eq_comm
    · congr 1
      funext p
      exact ofF_bit l f p.toNat k
def ofL (l : List Commit) (n : Nat) : Nat := ofF l n n
theorem ofL_bit (l : List Commit) (n k : Nat) : (ofL l n).testBit k = ab l n k := ofF_bit l n n k
theorem ofL_lt {l : List Commit} (h : DagOk l) {n : Nat} (hn : n < l.length) : ofL l n < 16384 := by
  apply Nat.lt_pow_two_of_testBit (n := 14)
  intro i hi
  rw [ofL_bit]
  cases hb : ab l n i with
  | false => rfl
  | true => have := ab_le h n i hb; have := h.1; omega

end Go.Pch
end
