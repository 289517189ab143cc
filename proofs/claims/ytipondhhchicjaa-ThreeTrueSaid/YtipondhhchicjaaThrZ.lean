/- Plain words of chapter 7: three ways; no program is named here. A map of ints that the call has made: what it says, read, written. Plain laws of chapter 7; no program is named here. The walk of three.Merge. The walk of the document's MergeOf. The walks of SameInts (where the commits' texts are not there), of threeBegun; literals of ints. The walks of the laws ThreeMerges, ThreeTrue, ThreePatch. -/
import Derived.Test.YtipondhhchicjaaChgP
import Derived.Test.YtipondhhchicjaaC1
import Derived.Maps.OwnSet
import Derived.Maps.Views
import Derived.Test.YtipondhhchicjaaDiffQ
import Derived.Test.YtipondhhchicjaaDiffB
import Derived.Test.YtipondhhchicjaaDiffF
import Derived.Test.YtipondhhchicjaaTreeA
import Derived.Test.YtipondhhchicjaaDiffG
import Derived.Test.YtipondhhchicjaaDiffH
import Derived.Test.YtipondhhchicjaaDiffX
namespace Go.Pch

/-- The first error of some rows. -/
def errL : List (List Row) → Int
  | [] => 0
  | l :: m => if rowsErr l = 0 then errL m else rowsErr l
theorem errL_go {X : List (List Row)} {k : Nat} {l : List Row} (h : X[k]? = some l) (hl : rowsErr l = 0) : errL (X.drop k) = errL (X.drop (k + 1)) := by
  obtain ⟨hk, rfl⟩ := List.getElem?_eq_some_iff.1 h
  rw [List.drop_eq_getElem_cons hk, errL, if_pos hl]
theorem errL_stop {X : List (List Row)} {k : Nat} {l : List Row} (h : X[k]? = some l) (hl : rowsErr l ≠ 0) : errL (X.drop k) = rowsErr l := by
  obtain ⟨hk, rfl⟩ := List.getElem?_eq_some_iff.1 h
  rw [List.drop_eq_getElem_cons hk, errL, if_neg hl]
theorem errL_three {a b c : List Row} (h : errL [a, b, c] = 0) : rowsErr a = 0 ∧ rowsErr b = 0 ∧ rowsErr c = 0 := by
  unfold errL at h
  split at h
  · rename_i ha
    unfold errL at h
    split at h
    · rename_i hb
      unfold errL at h
      split at h
      · rename_i hc
        exact ⟨ha, hb, hc⟩
      · exact absurd h (by assumption)
    · exact absurd h (by assumption)
  · exact absurd h (by assumption)

/-- G1: what a key has then. -/
def mergeT (x y z : Int → Int) (k : Int) : Int := if y k = z k then y k else if y k = x k then z k else y k
/-- G1: the keys that clash, from k on (n keys). -/
def clashFrom (x y z : Int → Int) : Nat → Int → List Int
  | 0, _ => []
  | n + 1, k => if y k ≠ z k ∧ y k ≠ x k ∧ z k ≠ x k then k :: clashFrom x y z n (k + 1) else clashFrom x y z n (k + 1)
def mergeL (base a b : List Row) : List Row := folded (mergeT (valueOf base) (valueOf a) (valueOf b))
def clashL (base a b : List Row) : List Int := clashFrom (valueOf base) (valueOf a) (valueOf b) 100 0
/-- G1: Merge's answer. -/
def mergeP (base a b : List Row) : List Row × List Int × Int :=
  if errL [base, a, b] = 0 then (if 40 < (mergeL base a b).length then ([], [], 2) else (mergeL base a b, clashL base a b, 0)) else ([], [], errL [base, a, b])

theorem mergeT_bounds {x y z : Int → Int} (hy : ∀ k, -1 ≤ y k ∧ y k ≤ 996) (hz : ∀ k, -1 ≤ z k ∧ z k ≤ 996) (k : Int) : -1 ≤ mergeT x y z k ∧ mergeT x y z k ≤ 996 := by
  unfold mergeT
  have := hy k; have := hz k
  split
  · assumption
  · split <;> assumption
theorem mergeL_rise {base a b : List Row} (ha : riseB (-1) a = true) (hb : riseB (-1) b = true) : riseB (-1) (mergeL base a b) = true :=
  folded_rise _ (mergeT_bounds (valueOf_bounds ha) (valueOf_bounds hb))
theorem clash_len (x y z : Int → Int) : ∀ (n : Nat) (k : Int), (clashFrom x y z n k).length ≤ n
  | 0, _ => Nat.le_refl _
  | n + 1, k => by
    have := clash_len x y z n (k + 1)
    rw [clashFrom]
    split
    · simp; omega
    · omega
theorem mem_clash {x y z : Int → Int} {j : Int} : ∀ (n : Nat) (k : Int), j ∈ clashFrom x y z n k ↔ k ≤ j ∧ j < k + n ∧ y j ≠ z j ∧ y j ≠ x j ∧ z j ≠ x j
  | 0, k => by simp [clashFrom]; omega
  | n + 1, k => by
    have ih := mem_clash (x := x) (y := y) (z := z) (j := j) n (k + 1)
    rw [clashFrom]
    by_cases h : y k ≠ z k ∧ y k ≠ x k ∧ z k ≠ x k
    · rw [if_pos h, List.mem_cons, ih]
      constructor
      · rintro (rfl | ⟨h1, h2, h3⟩)
        · exact ⟨Int.le_refl _, by omega, h⟩
        · exact ⟨by omega, by omega, h3⟩
      · rintro ⟨h1, h2, h3⟩
        by_cases hj : j = k
        · exact .inl hj
        · exact .inr ⟨by omega, by omega, h3⟩
    · rw [if_neg h, ih]
      constructor
      · rintro ⟨h1, h2, h3⟩; exact ⟨by omega, by omega, h3⟩
      · rintro ⟨h1, h2, h3⟩
        by_cases hj : j = k
        · subst hj; exact absurd h3 h
        · exact ⟨by omega, by omega, h3⟩

/-! ### The program's way -/
/-- What one has changed: a map. -/
def mapOf (d : List Change) : Int → Option Int := d.foldl (fun f c => fun j => if j = c.1 then some (c.2.2 + 2) else f j) fun _ => none
theorem mapOf_snoc (d : List Change) (c : Change) : mapOf (d ++ [c]) = fun j => if j = c.1 then some (c.2.2 + 2) else mapOf d j := by
  rw [mapOf, List.foldl_append]; rfl
theorem mapOf_fold : ∀ (d : List Change) (f : Int → Option Int) (k : Int),
    (∀ v, d.foldl (fun f c => fun j => if j = c.1 then some (c.2.2 + 2) else f j) f k = some v → f k = some v ∨ ∃ c ∈ d, c.1 = k ∧ v = c.2.2 + 2) ∧
    (d.foldl (fun f c => fun j => if j = c.1 then some (c.2.2 + 2) else f j) f k = none → f k = none ∧ ∀ c ∈ d, c.1 ≠ k)
  | [], f, k => ⟨fun v h => .inl h, fun h => ⟨h, by simp⟩⟩
  | c :: d, f, k => by
    obtain ⟨h1, h2⟩ := mapOf_fold d (fun j => if j = c.1 then some (c.2.2 + 2) else f j) k
    rw [List.foldl_cons]
    refine ⟨fun v h => ?_, fun h => ?_⟩
    · rcases h1 v h with h | ⟨e, he, h⟩
      · by_cases hk : k = c.1
        · rw [if_pos hk] at h
          exact .inr ⟨c, by simp, hk.symm, (Option.some.inj h).symm⟩
        · rw [if_neg hk] at h
          exact .inl h
      · exact .inr ⟨e, by simp [he], h⟩
    · obtain ⟨h3, h4⟩ := h2 h
      by_cases hk : k = c.1
      · rw [if_pos hk] at h3; cases h3
      · rw [if_neg hk] at h3
        exact ⟨h3, fun e he => by rcases List.mem_cons.1 he with rfl | he; exact fun e => hk e.symm; exact h4 e he⟩
theorem mapOf_diff {x y : Int → Int} {k : Int} (h0 : 0 ≤ k) (h1 : k ≤ 99) : mapOf (diffL x y) k = if x k = y k then none else some (y k + 2) := by
  obtain ⟨h2, h3⟩ := mapOf_fold (diffL x y) (fun _ => none) k
  change (∀ v, mapOf (diffL x y) k = some v → _) at h2
  change (mapOf (diffL x y) k = none → _) at h3
  cases hm : mapOf (diffL x y) k with
  | none =>
    by_cases he : x k = y k
    · rw [if_pos he]
    · exact absurd rfl ((h3 hm).2 (k, x k, y k) ((mem_diff 100 0).2 ⟨h0, by show k < _; omega, rfl, rfl, he⟩))
  | some v =>
    rcases h2 v hm with h | ⟨c, hc, rfl, rfl⟩
    · cases h
    · obtain ⟨_, _, _, e2, e3⟩ := (mem_diff 100 0).1 hc
      rw [if_neg e3, e2]

/-- A change of the other's that is taken over. -/
def freeB (f : Int → Option Int) (c : Change) : Bool := decide ((f c.1).getD 0 = 0)
/-- A change of the other's that clashes. -/
def clashB (f : Int → Option Int) (c : Change) : Bool := !decide ((f c.1).getD 0 = 0) && !decide ((f c.1).getD 0 = c.2.2 + 2)

theorem fineC_filter (p : Change → Bool) : ∀ {m : Int} {d : List Change}, fineC m d = true → fineC m (d.filter p) = true
  | _, [], _ => rfl
  | m, x :: d, h => by
    rw [fineC_cons] at h
    have ih := fineC_filter p h.2
    rw [List.filter_cons]
    split
    · rw [fineC_cons]; exact ⟨h.1, ih⟩
    · exact fineC_weaken ih (by omega)

theorem merge_rows {base a b : List Row} (h0 : riseB (-1) base = true) (ha : riseB (-1) a = true) (hb : riseB (-1) b = true) {f : Int → Option Int} (hf : f = mapOf (betw base a)) :
    setAll a ((betw base b).filter (freeB f)) = mergeL base a b := by
  have hd := diffL_fine (valueOf_bounds h0) (valueOf_bounds hb)
  rw [betw_diff h0 ha] at hf
  rw [betw_diff h0 hb]
  have hff := fineC_filter (freeB f) hd
  refine rows_ext (setAll_rise (by omega) ha hff) (mergeL_rise ha hb) fun k h1 h2 => ?_
  have hk0 : 0 ≤ k := by omega
  have hfk : f k = if valueOf base k = valueOf a k then none else some (valueOf a k + 2) := by rw [hf]; exact mapOf_diff hk0 h2
  have hya := valueOf_bounds ha k
  rw [setAll_value (by omega) ha hff, mergeL, folded_value _ k hk0 h2]
  cases hs : ((diffL (valueOf base) (valueOf b)).filter (freeB f)).find? (fun x => decide (x.1 = k)) with
  | some c =>
    have hc1 := List.find?_some hs
    have hc2 := List.mem_of_find?_eq_some hs
    obtain ⟨hc3, hc4⟩ := List.mem_filter.1 hc2
    obtain ⟨_, _, e1, e2, e3⟩ := (mem_diff 100 0).1 hc3
    have hc1' : c.1 = k := by simpa using hc1
    rw [hc1'] at e1 e2 e3
    simp only [freeB, decide_eq_true_eq, hc1', hfk] at hc4
    have hxy : valueOf base k = valueOf a k := by
      by_cases h : valueOf base k = valueOf a k
      · exact h
      · rw [if_neg h] at hc4; simp at hc4; omega
    show c.2.2 = _
    rw [e2, mergeT, if_neg (by omega), if_pos hxy.symm]
  | none =>
    have hno := List.find?_eq_none.1 hs
    show valueOf a k = _
    unfold mergeT
    by_cases h3 : valueOf a k = valueOf b k
    · rw [if_pos h3]
    · rw [if_neg h3]
      by_cases h4 : valueOf a k = valueOf base k
      · have hm : (k, valueOf base k, valueOf b k) ∈ (diffL (valueOf base) (valueOf b)).filter (freeB f) := by
          refine List.mem_filter.2 ⟨(mem_diff 100 0).2 ⟨hk0, by show k < _; omega, rfl, rfl, by show valueOf base k ≠ valueOf b k; omega⟩, ?_⟩
          simp only [freeB, hfk, if_pos h4.symm]
          rfl
        exact absurd (hno _ hm) (by simp)
      · rw [if_neg h4]
theorem merge_clash {base a b : List Row} (h0 : riseB (-1) base = true) (ha : riseB (-1) a = true) (hb : riseB (-1) b = true) {f : Int → Option Int} (hf : f = mapOf (betw base a)) :
    ((betw base b).filter (clashB f)).map (·.1) = clashL base a b := by
  rw [betw_diff h0 ha] at hf
  rw [betw_diff h0 hb]
  have go : ∀ (n : Nat) (k : Int), 0 ≤ k → k + n ≤ 100 → ((diffFrom (valueOf base) (valueOf b) n k).filter (clashB f)).map (·.1) = clashFrom (valueOf base) (valueOf a) (valueOf b) n k := by
    intro n
    induction n with
    | zero => intros; rfl
    | succ n ih =>
      intro k hk0 hkn
      have ih := ih (k + 1) (by omega) (by omega)
      have hfk : f k = if valueOf base k = valueOf a k then none else some (valueOf a k + 2) := by rw [hf]; exact mapOf_diff hk0 (by omega)
      have hya := valueOf_bounds ha k
      rw [diffFrom, clashFrom]
      by_cases h1 : valueOf base k = valueOf b k
      · rw [if_pos h1, if_neg (by omega), ih]
      · rw [if_neg h1, List.filter_cons]
        by_cases h2 : valueOf base k = valueOf a k
        · have : clashB f (k, valueOf base k, valueOf b k) = false := by simp only [clashB, hfk, if_pos h2]; rfl
          rw [this, if_neg (by simp), if_neg (by omega), ih]
        · by_cases h3 : valueOf a k = valueOf b k
          · have : clashB f (k, valueOf base k, valueOf b k) = false := by simp [clashB, hfk, h3, h1]
            rw [this, if_neg (by simp), if_neg (by omega), ih]
          · have : clashB f (k, valueOf base k, valueOf b k) = true := by
              simp only [clashB, hfk, if_neg h2, Option.getD_some, Bool.and_eq_true, Bool.not_eq_true', decide_eq_false_iff_not]
              omega
            rw [this, if_pos rfl, if_pos (by omega), List.map_cons, ih]
  exact go 100 0 (by omega) (by omega)

end Go.Pch

namespace Go.Pch
open Go.RowKit Go.Proofs Go.Maps

theorem intKeyed : Keyed Try.prog 3 := int_keyed Try.underlying3
theorem intZero (w : World) : (zeroValue 3).run Try.prog w = .ok (.int .i64 0) w := by kernel_rfl
theorem i64wf {n : Int} (h : i64ok n) : (Lit.int .i64 n).wf = true := by
  unfold i64ok at h
  simp only [Lit.wf, IntKind.min, IntKind.max, IntKind.signed, IntKind.bits, Bool.and_eq_true, decide_eq_true_eq, if_true]
  omega
/-- Block b is a map of at most n entries that says f. -/
def MapI (w : World) (b n : Nat) (f : Int → Option Int) : Prop :=
  ∃ D : DataW Unit, w.ownsMap Try.prog 3 (plainElem Try.prog 3) b n D ∧ ∀ k, Maps.has D (.int .i64 k) = (f k).isSome ∧ D.atKey (.int .i64 k) (.lit (.int .i64 0)) = .lit (.int .i64 ((f k).getD 0))
theorem MapI.made (w : World) : MapI (w.alloc (.map #[] 0)) w.heap.size 0 (fun _ => none) :=
  ⟨.map [], World.ownsMap_made _ _ _ _, fun _ => ⟨rfl, rfl⟩⟩
theorem MapI.kept {w w' : World} {b n : Nat} {f : Int → Option Int} {row : Option Nat} (h : MapI w b n f) (hg : w.grownBy w' row) (hne : some b ≠ row) : MapI w' b n f := by
  obtain ⟨D, h1, h2⟩ := h
  exact ⟨D, h1.kept hg hne, h2⟩
theorem MapI.lt {w : World} {b n : Nat} {f : Int → Option Int} (h : MapI w b n f) : b < w.heap.size := by obtain ⟨D, h1, _⟩ := h; exact h1.lt
theorem MapI.keep {w w' : World} {b n : Nat} {f : Int → Option Int} (h : MapI w b n f) (hk : w'.heap[b]? = w.heap[b]?) : MapI w' b n f := by
  obtain ⟨D, ⟨es, clock, hb, r⟩, h2⟩ := h
  exact ⟨D, ⟨es, clock, hk.trans hb, r⟩, h2⟩
theorem MapI.look {w : World} {b n : Nat} {f : Int → Option Int} (h : MapI w b n f) {k : Int} (hk : i64ok k) :
    (Instr.lookup 60 (.map (some b)) (.int .i64 k) false).run Try.prog w = .ok (.int .i64 ((f k).getD 0)) w := by
  obtain ⟨D, h1, h2⟩ := h
  obtain ⟨c, e1, e2, _⟩ := h1.lookup_int intKeyed Try.underlying60 Try.underlying3 (intZero w) (keyOf_int_mk Try.underlying3 (i64wf hk))
  rw [(h2 k).2] at e2
  simp at e2
  rw [e1, e2]
theorem MapI.lookOk {w : World} {b n : Nat} {f : Int → Option Int} (h : MapI w b n f) {k : Int} (hk : i64ok k) :
    (Instr.lookup 60 (.map (some b)) (.int .i64 k) true).run Try.prog w = .ok (.tuple #[.int .i64 ((f k).getD 0), .bool (f k).isSome]) w := by
  obtain ⟨D, h1, h2⟩ := h
  obtain ⟨v, ps, e1, e2⟩ := h1.look_ok intKeyed Try.underlying60 (intZero w) (plainElem_int Try.underlying3 (a := 0) (by decide)) (keyOf_int_mk Try.underlying3 (i64wf hk))
  rw [(h2 k).2] at e2
  obtain ⟨c, rfl, hc, _⟩ := plainElem_int_inv Try.underlying3 e2
  simp at hc
  rw [e1, (h2 k).1, hc.1]
/-- m[k] = v, as a law for the walk. -/
theorem wpList_mapI {w : World} {ops : Array Oper} {rest : List Oper} {o : Oper} {a : Act} {Q : Exit → Act → World → Prop} (hg : o.guard = none) (m x v : Operand) (hop : o.op = Op.mapUpdate 60 m x v)
    {b n : Nat} {f : Int → Option Int} (hm : a.eval m = .map (some b)) (h : MapI w b n f) (hn : n < 1000000000) {k c : Int} (hx : a.eval x = .int .i64 k) (hv : a.eval v = .int .i64 c) (hk : i64ok k) (hc : i64ok c)
    (hK : ∀ w', MapI w' b (n + 1) (fun j => if j = k then some c else f j) → w.grownBy w' (some b) → wpList Try.prog ops Q rest (a.put o.dst undef) w') :
    wpList Try.prog ops Q (o :: rest) a w := by
  obtain ⟨D, h1, h2⟩ := h
  refine wpList_mapUpdate_own w hg m x v 60 hop 3 3 intKeyed Try.underlying60 (plainElem Try.prog 3) b n D hm h1 (by unfold maxLen; omega) _ _ _ hx hv (keyOf_int_mk Try.underlying3 (i64wf hk)) _ [] (plainElem_int Try.underlying3 (i64wf hc)) ?_
  intro w' h3 h4
  refine hK w' ⟨_, h3, fun j => ?_⟩ h4
  by_cases hj : j = k
  · have e : (fun j => if j = k then some c else f j) j = some c := if_pos hj
    rw [e, hj]
    exact ⟨has_put_same h1.isMap (by trivial) _, atKey_put_same h1.isMap (by trivial) _ _⟩
  · have e : (fun j => if j = k then some c else f j) j = f j := if_neg hj
    have hne : Lit.int IntKind.i64 j ≠ Lit.int .i64 k := by simpa using hj
    rw [e]
    exact ⟨(has_put_other hne _).trans (h2 j).1, (atKey_put_other hne _ _).trans (h2 j).2⟩

end Go.Pch

namespace Go.Pch

theorem clash_none (x y z : Int → Int) (h : ∀ k, ¬ (y k ≠ z k ∧ y k ≠ x k ∧ z k ≠ x k)) : ∀ (n : Nat) (k : Int), clashFrom x y z n k = []
  | 0, _ => rfl
  | n + 1, k => by rw [clashFrom, if_neg (h k), clash_none x y z h n]
theorem clash_swap (x y z : Int → Int) : ∀ (n : Nat) (k : Int), clashFrom x y z n k = clashFrom x z y n k
  | 0, _ => rfl
  | n + 1, k => by
    rw [clashFrom, clashFrom, clash_swap x y z n]
    by_cases h : y k ≠ z k ∧ y k ≠ x k ∧ z k ≠ x k
    · rw [if_pos h, if_pos ⟨fun e => h.1 e.symm, h.2.2, h.2.1⟩]
    · rw [if_neg h, if_neg fun g => h ⟨fun e => g.1 e.symm, g.2.2, g.2.1⟩]
theorem folded_congr {x y : Int → Int} (h : ∀ k, x k = y k) : folded x = folded y := by rw [show x = y from funext h]
theorem err3 {a b c : List Row} (ha : rowsErr a = 0) (hb : rowsErr b = 0) (hc : rowsErr c = 0) : errL [a, b, c] = 0 := by simp [errL, ha, hb, hc]
theorem merge_only {base a : List Row} (h0 : rowsErr base = 0) (ha : rowsErr a = 0) : mergeP base a base = (a, [], 0) := by
  have hm : mergeL base a base = a := by
    rw [mergeL, ← folded_of (ok_rise ha).2]
    conv => rhs; rw [folded_of (ok_rise ha).2]
    conv => rhs; rw [← folded_of (ok_rise ha).2]
    refine folded_congr fun k => ?_
    rw [folded_of (ok_rise ha).2]
    unfold mergeT
    split
    · rfl
    · rfl
  rw [mergeP, if_pos (err3 h0 ha h0), if_neg (by rw [hm]; have := (ok_rise ha).1; omega), hm]
  rw [clashL, clash_none _ _ _ fun k h => h.2.2 rfl]
theorem merge_other {base b : List Row} (h0 : rowsErr base = 0) (hb : rowsErr b = 0) : mergeP base base b = (b, [], 0) := by
  have hm : mergeL base base b = b := by
    conv => rhs; rw [← folded_of (ok_rise hb).2]
    refine folded_congr fun k => ?_
    unfold mergeT
    split
    · rename_i h; exact h
    · rw [if_pos rfl]
  rw [mergeP, if_pos (err3 h0 h0 hb), if_neg (by rw [hm]; have := (ok_rise hb).1; omega), hm]
  rw [clashL, clash_none _ _ _ fun k h => h.2.1 rfl]
theorem merge_both {base a : List Row} (h0 : rowsErr base = 0) (ha : rowsErr a = 0) : mergeP base a a = (a, [], 0) := by
  have hm : mergeL base a a = a := by
    conv => rhs; rw [← folded_of (ok_rise ha).2]
    refine folded_congr fun k => ?_
    unfold mergeT
    rw [if_pos rfl]
  rw [mergeP, if_pos (err3 h0 ha ha), if_neg (by rw [hm]; have := (ok_rise ha).1; omega), hm]
  rw [clashL, clash_none _ _ _ fun k h => h.1 rfl]
theorem merge_inv {base a b : List Row} (h : (mergeP base a b).2.2 = 0) : (rowsErr base = 0 ∧ rowsErr a = 0 ∧ rowsErr b = 0) ∧ (mergeL base a b).length ≤ 40 ∧ mergeP base a b = (mergeL base a b, clashL base a b, 0) := by
  unfold mergeP at h ⊢
  split at h
  · rename_i he
    split at h
    · simp at h
    · rename_i hm
      rw [if_pos he, if_neg hm]
      exact ⟨errL_three he, by omega, rfl⟩
  · rename_i he; exact absurd h he
theorem clashL_swap (base a b : List Row) : clashL base a b = clashL base b a := clash_swap _ _ _ _ _
theorem merge_swap {base a b : List Row} (hc : clashL base a b = []) : mergeL base a b = mergeL base b a := by
  have go : ∀ (n : Nat) (k : Int), 0 ≤ k → k + n ≤ 100 → foldFrom (mergeT (valueOf base) (valueOf a) (valueOf b)) n k = foldFrom (mergeT (valueOf base) (valueOf b) (valueOf a)) n k := by
    intro n
    induction n with
    | zero => intros; rfl
    | succ n ih =>
      intro k h0 h1
      have e : mergeT (valueOf base) (valueOf a) (valueOf b) k = mergeT (valueOf base) (valueOf b) (valueOf a) k := by
        have hno : ¬ (valueOf a k ≠ valueOf b k ∧ valueOf a k ≠ valueOf base k ∧ valueOf b k ≠ valueOf base k) := fun h => by
          have : k ∈ clashL base a b := (mem_clash 100 0).2 ⟨h0, by omega, h⟩
          rw [hc] at this
          exact absurd this (by simp)
        unfold mergeT
        by_cases h2 : valueOf a k = valueOf b k
        · rw [if_pos h2, if_pos h2.symm, h2]
        · rw [if_neg h2, if_neg (show ¬ valueOf b k = valueOf a k from fun e => h2 e.symm)]
          by_cases h3 : valueOf a k = valueOf base k
          · rw [if_pos h3]
            by_cases h4 : valueOf b k = valueOf base k
            · omega
            · rw [if_neg h4]
          · rw [if_neg h3]
            by_cases h4 : valueOf b k = valueOf base k
            · rw [if_pos h4]
            · exact absurd ⟨h2, h3, h4⟩ hno
      rw [foldFrom, foldFrom, e, ih (k + 1) (by omega) (by omega)]
  exact go 100 0 (by omega) (by omega)
theorem find_merge {base a b : List Row} (hi : (rowsErr base = 0 ∧ rowsErr a = 0 ∧ rowsErr b = 0) ∧ (mergeL base a b).length ≤ 40) {k : Int} (h0 : 0 ≤ k) (h1 : k ≤ 99) :
    findP (mergeL base a b) k = (mergeT (valueOf base) (valueOf a) (valueOf b) k, 0) := by
  have hr := mergeL_rise (base := base) (ok_rise hi.1.2.1).2 (ok_rise hi.1.2.2).2
  rw [findP, if_pos (rowsErr_zero hi.2 hr), if_pos (by simp [keyB]; omega), mergeL, folded_value _ k h0 h1]
theorem find_ok {l : List Row} (hl : rowsErr l = 0) {k : Int} (h0 : 0 ≤ k) (h1 : k ≤ 99) : findP l k = (valueOf l k, 0) := by
  rw [findP, if_pos hl, if_pos (by simp [keyB]; omega)]
theorem clash_mem {base a b : List Row} {k : Int} (h0 : 0 ≤ k) (h1 : k ≤ 99) : k ∈ clashL base a b ↔ valueOf a k ≠ valueOf b k ∧ valueOf a k ≠ valueOf base k ∧ valueOf b k ≠ valueOf base k := by
  rw [clashL, mem_clash]
  exact ⟨fun h => h.2.2, fun h => ⟨h0, by omega, h⟩⟩

/-- What b has changed, but what a has changed so already. -/
def leftL (base a b : List Row) : List Change := (diffL (valueOf base) (valueOf b)).filter fun c => !decide (valueOf a c.1 = c.2.2)
theorem left_patch {base a b : List Row} (hi : (rowsErr base = 0 ∧ rowsErr a = 0 ∧ rowsErr b = 0) ∧ (mergeL base a b).length ≤ 40) (hc : clashL base a b = []) : patchP a (leftL base a b) = (mergeL base a b, 0) := by
  obtain ⟨⟨e0, ea, eb⟩, hlen⟩ := hi
  have r0 := (ok_rise e0).2
  have ra := (ok_rise ea).2
  have rb := (ok_rise eb).2
  have hno : ∀ k, 0 ≤ k → k ≤ 99 → ¬ (valueOf a k ≠ valueOf b k ∧ valueOf a k ≠ valueOf base k ∧ valueOf b k ≠ valueOf base k) := fun k h0 h1 h => by
    have := (clash_mem (base := base) (a := a) (b := b) h0 h1).2 h
    rw [hc] at this
    exact absurd this (by simp)
  have hf : fineC (-1) (leftL base a b) = true := fineC_filter _ (diffL_fine (valueOf_bounds r0) (valueOf_bounds rb))
  have hmem : ∀ c ∈ leftL base a b, 0 ≤ c.1 ∧ c.1 ≤ 99 ∧ c.2.1 = valueOf base c.1 ∧ c.2.2 = valueOf b c.1 ∧ valueOf base c.1 ≠ valueOf b c.1 ∧ valueOf a c.1 ≠ valueOf b c.1 := fun c hcm => by
    obtain ⟨h1, h2⟩ := List.mem_filter.1 hcm
    obtain ⟨h3, h4, h5, h6, h7⟩ := (mem_diff 100 0).1 h1
    refine ⟨h3, by omega, h5, h6, h7, ?_⟩
    simp only [Bool.not_eq_true', decide_eq_false_iff_not] at h2
    rw [← h6]; exact h2
  have hm : matchB a (leftL base a b) = true := by
    refine List.all_eq_true.2 fun c hcm => ?_
    obtain ⟨h0, h1, h2, h3, h4, h5⟩ := hmem c hcm
    have := hno c.1 h0 h1
    rw [decide_eq_true_eq, h2]
    by_cases h : valueOf a c.1 = valueOf base c.1
    · exact h
    · exact absurd ⟨h5, h, fun e => h4 e.symm⟩ this
  have hs : setAll a (leftL base a b) = mergeL base a b := by
    refine rows_ext (setAll_rise (by omega) ra hf) (mergeL_rise ra rb) fun k h0 h1 => ?_
    rw [setAll_value (by omega) ra hf, mergeL, folded_value _ k (by omega) h1]
    have hnk := hno k (by omega) h1
    cases hq : (leftL base a b).find? (fun x => decide (x.1 = k)) with
    | some c =>
      have h2 := List.find?_some hq
      have h2' : c.1 = k := by simpa using h2
      obtain ⟨_, _, e1, e2, e3, e4⟩ := hmem c (List.mem_of_find?_eq_some hq)
      rw [h2'] at e1 e2 e3 e4
      show c.2.2 = _
      rw [e2, mergeT, if_neg e4]
      by_cases h : valueOf a k = valueOf base k
      · rw [if_pos h]
      · exact absurd ⟨e4, h, fun e => e3 e.symm⟩ hnk
    | none =>
      have hn := List.find?_eq_none.1 hq
      show valueOf a k = _
      unfold mergeT
      by_cases h2 : valueOf a k = valueOf b k
      · rw [if_pos h2]
      · rw [if_neg h2]
        by_cases h3 : valueOf a k = valueOf base k
        · have h4 : valueOf base k ≠ valueOf b k := fun e => h2 (h3.trans e)
          have hin : (k, valueOf base k, valueOf b k) ∈ leftL base a b := List.mem_filter.2 ⟨(mem_diff 100 0).2 ⟨by show 0 ≤ k; omega, by show k < _; omega, rfl, rfl, h4⟩, by simpa using h2⟩
          exact absurd (hn _ hin) (by simp)
        · rw [if_neg h3]
  rw [patchP_ok ea hf hm (by rw [hs]; omega), hs]

end Go.Pch

namespace Go.Pch
open Go.RowKit Go.Proofs
set_option maxRecDepth 100000

theorem lev_idx (g n : Nat) (k : Nat) (hk : k < n) (W : World) : Sem.run Try.prog (Instr.indexAt 58 (.slice (some ⟨g, 0, none⟩) n n) (.int .i64 (k : Nat))) W = .ok (.pointer (some ⟨g, k, none⟩)) W := by
  have := run_idx aLev (b := g) (o := 0) (len := n) (cap := n) (k : Int) k rfl hk W
  rwa [show tRow.slice.size = 1 from rfl, Nat.mul_one, Nat.zero_add] at this
theorem lit3_cells (w : World) (a b c : Value) (t : TypeId) : (w.alloc (.cells #[a, b, c] t)).cell? ⟨w.heap.size, 0, none⟩ = some a ∧ (w.alloc (.cells #[a, b, c] t)).cell? ⟨w.heap.size, 1, none⟩ = some b ∧ (w.alloc (.cells #[a, b, c] t)).cell? ⟨w.heap.size, 2, none⟩ = some c := by
  refine ⟨?_, ?_, ?_⟩ <;> (rw [World.cell?, heap_alloc_new]; rfl)
theorem mergeP_bad {a b c : List Row} (h : errL [a, b, c] ≠ 0) : mergeP a b c = ([], [], errL [a, b, c]) := by rw [mergeP, if_neg h]
theorem mergeP_many {a b c : List Row} (h : errL [a, b, c] = 0) (hm : 40 < (mergeL a b c).length) : mergeP a b c = ([], [], 2) := by rw [mergeP, if_pos h, if_pos hm]
theorem mergeP_ok {a b c : List Row} (h : errL [a, b, c] = 0) (hm : ¬ 40 < (mergeL a b c).length) : mergeP a b c = (mergeL a b c, clashL a b c, 0) := by rw [mergeP, if_pos h, if_neg hm]

theorem aIntS : At Try.prog tInt 23 3 := At.mk' Try.underlying23 (z := .int .i64 0) (size := 1) (bytes := 8) (by kernel_rfl) rfl rfl (by decide)
theorem Own.base {α : Type} {E : Ty α} {e : TypeId} {w : World} {B B' : Nat} {C : Blk} {v : Value} {l : List α} (h : Own E e w B C v l) (hB : B' ≤ B) : Own E e w B' C v l := by
  obtain ⟨xs, ⟨e1, e2⟩, hE⟩ := h
  refine ⟨xs, ⟨e1, ?_⟩, hE⟩
  rcases e2 with e2 | ⟨g, cap, cur, a1, a2, a3⟩
  · exact .inl e2
  · exact .inr ⟨g, cap, cur, a1, by omega, a3⟩
/-- Two rows of unlike elements lie apart. -/
theorem Own.apart {α β : Type} {E : Ty α} {F : Ty β} {e f : TypeId} {w : World} {B B' : Nat} {C C' : Blk} {v u : Value} {l : List α} {m : List β} (h : Own E e w B C v l) (g : Own F f w B' C' u m) (hef : e ≠ f) : ∀ k, v.ownBlock = some k → u.ownBlock ≠ some k := by
  obtain ⟨xs, ⟨_, e2⟩, _⟩ := h
  obtain ⟨ys, ⟨_, f2⟩, _⟩ := g
  intro k hk hk'
  rcases e2 with ⟨rfl, _⟩ | ⟨g1, cap, cur, rfl, _, a3, _⟩
  · simp [Value.ownBlock] at hk
  · rcases f2 with ⟨rfl, _⟩ | ⟨g2, cap', cur', rfl, _, b3, _⟩
    · simp [Value.ownBlock] at hk'
    · simp only [Value.ownBlock, Option.some.injEq] at hk hk'
      subst hk
      subst hk'
      rw [a3] at b3
      simp at b3
      exact hef b3.2
theorem tInt_mk (w : World) (S : Blk) (a : Int) (ha : i64ok a) : tInt.rd w S [.int .i64 a] a := ⟨rfl, ha⟩

set_option maxHeartbeats 4000000 in
theorem threeMerge (v0 v1 v2 : Value) (a b c : List Row) (S : Blk) (w : World) (h0 : Sl tRow w S v0 a) (h1 : Sl tRow w S v1 b) (h2 : Sl tRow w S v2 c) :
    Calls Try.prog 14 #[v0, v1, v2] w (Ret w fun r w' => ∃ x y, r = .tuple #[x, y, .int .i64 (mergeP a b c).2.2] ∧ Sl tRow w' (fun k => w.heap.size ≤ k) x (mergeP a b c).1 ∧ Sl tInt w' (fun k => w.heap.size ≤ k) y (mergeP a b c).2.1) := by
  have H0 := h0
  have H1 := h1
  have H2 := h2
  obtain ⟨a0, c0, rfl, _, _, _⟩ := h0.shape
  obtain ⟨a1, c1, rfl, _, _, _⟩ := h1.shape
  obtain ⟨a2, c2, rfl, _, _, _⟩ := h2.shape
  obtain ⟨l0, l1, l2⟩ := lit3_cells w (.slice a0 a.length c0) (.slice a1 b.length c1) (.slice a2 c.length c2) 22
  have hmm := @run_makeMap Try.prog
  go_enter Try.func14, Try.ntmps14
  go_wp2_with fail
  go_loopw [25] (fun i wr => ∃ (k : Nat), k ≤ 3 ∧ i = .int .i64 k ∧ Below w.heap.size w wr ∧ wr.cell? ⟨w.heap.size, 0, none⟩ = some (.slice a0 a.length c0) ∧ wr.cell? ⟨w.heap.size, 1, none⟩ = some (.slice a1 b.length c1) ∧ wr.cell? ⟨w.heap.size, 2, none⟩ = some (.slice a2 c.length c2) ∧ Hid (errL [a, b, c] = errL ([a, b, c].drop k))) (fun i _ => 3 - (intOf i).toNat)
  case atStart => exact ⟨0, by omega, rfl, (Below.refl _ _).alloc (Nat.le_refl _) _, l0, l1, l2, keepBack rfl⟩
  case round =>
    obtain ⟨k, hk, rfl, hb, hc0, hc1, hc2, HE⟩ := hrel
    have hs := hb.size
    clear l0 l1 l2
    have hcases : k = 0 ∨ k = 1 ∨ k = 2 ∨ k = 3 := by omega
    rcases hcases with rfl | rfl | rfl | rfl
    · have hi := lev_idx w.heap.size 3 0 (by omega)
      by_cases hz : rowsErr a = 0
      · have HZ := keepBack hz
        go_wp2_with fail
        refine (rowsCheckOf _ a S wr (H0.call hb) hz).mono ?_; rintro e w1 ⟨_, rfl, rfl, b1⟩
        clear hz
        go_wp2
        go_roundw
        case rel => exact ⟨1, by omega, rfl, hb.trans (b1.mono hs), (b1.cell (p := ⟨w.heap.size, 0, none⟩) (World.block_lt_of_cell? _ _ hc0)).trans hc0, (b1.cell (p := ⟨w.heap.size, 1, none⟩) (World.block_lt_of_cell? _ _ hc1)).trans hc1, (b1.cell (p := ⟨w.heap.size, 2, none⟩) (World.block_lt_of_cell? _ _ hc2)).trans hc2, keepBack (by rw [HE.out, errL_go (X := [a, b, c]) (k := 0) (l := a) rfl HZ.out])⟩
        case measure => simp [intOf]
      · have hq : (rowsErr a != 0) = true := by simp [hz]
        have hst := errL_stop (X := [a, b, c]) (k := 0) (l := a) rfl hz
        have HV := keepBack (HE.out.trans hst)
        have HP := keepBack (mergeP_bad (a := a) (b := b) (c := c) (by rw [HV.out]; exact hz))
        clear hst
        go_wp2_with fail
        refine (rowsCheck _ a S wr (H0.call hb)).mono ?_; rintro e w1 ⟨_, rfl, rfl, b1⟩
        clear hz
        go_wp2
        go_ret3
        exact ⟨_, rfl, ⟨_, _, by rw [HP.out, HV.out]; rfl, by rw [HP.out]; exact Sl.nil _ _ _, by rw [HP.out]; exact Sl.nil _ _ _⟩, hb.trans (b1.mono hs)⟩
    · have hi := lev_idx w.heap.size 3 1 (by omega)
      by_cases hz : rowsErr b = 0
      · have HZ := keepBack hz
        go_wp2_with fail
        refine (rowsCheckOf _ b S wr (H1.call hb) hz).mono ?_; rintro e w1 ⟨_, rfl, rfl, b1⟩
        clear hz
        go_wp2
        go_roundw
        case rel => exact ⟨2, by omega, rfl, hb.trans (b1.mono hs), (b1.cell (p := ⟨w.heap.size, 0, none⟩) (World.block_lt_of_cell? _ _ hc0)).trans hc0, (b1.cell (p := ⟨w.heap.size, 1, none⟩) (World.block_lt_of_cell? _ _ hc1)).trans hc1, (b1.cell (p := ⟨w.heap.size, 2, none⟩) (World.block_lt_of_cell? _ _ hc2)).trans hc2, keepBack (by rw [HE.out, errL_go (X := [a, b, c]) (k := 1) (l := b) rfl HZ.out])⟩
        case measure => simp [intOf]
      · have hq : (rowsErr b != 0) = true := by simp [hz]
        have hst := errL_stop (X := [a, b, c]) (k := 1) (l := b) rfl hz
        have HV := keepBack (HE.out.trans hst)
        have HP := keepBack (mergeP_bad (a := a) (b := b) (c := c) (by rw [HV.out]; exact hz))
        clear hst
        go_wp2_with fail
        refine (rowsCheck _ b S wr (H1.call hb)).mono ?_; rintro e w1 ⟨_, rfl, rfl, b1⟩
        clear hz
        go_wp2
        go_ret3
        exact ⟨_, rfl, ⟨_, _, by rw [HP.out, HV.out]; rfl, by rw [HP.out]; exact Sl.nil _ _ _, by rw [HP.out]; exact Sl.nil _ _ _⟩, hb.trans (b1.mono hs)⟩
    · have hi := lev_idx w.heap.size 3 2 (by omega)
      by_cases hz : rowsErr c = 0
      · have HZ := keepBack hz
        go_wp2_with fail
        refine (rowsCheckOf _ c S wr (H2.call hb) hz).mono ?_; rintro e w1 ⟨_, rfl, rfl, b1⟩
        clear hz
        go_wp2
        go_roundw
        case rel => exact ⟨3, by omega, rfl, hb.trans (b1.mono hs), (b1.cell (p := ⟨w.heap.size, 0, none⟩) (World.block_lt_of_cell? _ _ hc0)).trans hc0, (b1.cell (p := ⟨w.heap.size, 1, none⟩) (World.block_lt_of_cell? _ _ hc1)).trans hc1, (b1.cell (p := ⟨w.heap.size, 2, none⟩) (World.block_lt_of_cell? _ _ hc2)).trans hc2, keepBack (by rw [HE.out, errL_go (X := [a, b, c]) (k := 2) (l := c) rfl HZ.out])⟩
        case measure => simp [intOf]
      · have hq : (rowsErr c != 0) = true := by simp [hz]
        have hst := errL_stop (X := [a, b, c]) (k := 2) (l := c) rfl hz
        have HV := keepBack (HE.out.trans hst)
        have HP := keepBack (mergeP_bad (a := a) (b := b) (c := c) (by rw [HV.out]; exact hz))
        clear hst
        go_wp2_with fail
        refine (rowsCheck _ c S wr (H2.call hb)).mono ?_; rintro e w1 ⟨_, rfl, rfl, b1⟩
        clear hz
        go_wp2
        go_ret3
        exact ⟨_, rfl, ⟨_, _, by rw [HP.out, HV.out]; rfl, by rw [HP.out]; exact Sl.nil _ _ _, by rw [HP.out]; exact Sl.nil _ _ _⟩, hb.trans (b1.mono hs)⟩
    · have herr : errL [a, b, c] = 0 := HE.out
      obtain ⟨ra, rb, rc⟩ := errL_three herr
      obtain ⟨la, ra'⟩ := ok_rise ra
      obtain ⟨lb, rb'⟩ := ok_rise rb
      obtain ⟨lc, rc'⟩ := ok_rise rc
      have HPM := keepBack (mergeP_many herr)
      have HPO := keepBack (mergeP_ok herr)
      have HROW := keepBack (merge_rows ra' rb' rc' (f := mapOf (betw a b)) rfl)
      have HCL := keepBack (merge_clash ra' rb' rc' (f := mapOf (betw a b)) rfl)
      have HRB := keepBack rb'
      have HF2 := keepBack (show fineC (-1) (betw a c) = true by rw [betw_diff ra' rc']; exact diffL_fine (valueOf_bounds ra') (valueOf_bounds rc'))
      have HF1 := keepBack (show fineC (-1) (betw a b) = true by rw [betw_diff ra' rb']; exact diffL_fine (valueOf_bounds ra') (valueOf_bounds rb'))
      obtain ⟨wo, rfl⟩ : ∃ wo : World, wo = wr := ⟨_, rfl⟩
      have f0 := ok_fine ra
      have f1 := ok_fine rb
      have f2 := ok_fine rc
      clear hc0 hc1 hc2 herr ra rb rc ra' rb' rc'
      go_wp2_with fail
      refine (betweenR _ _ a b _ _ (wo.alloc (.map #[] 0)) ((H0.call hb).call ((Below.refl _ _).alloc (Nat.le_refl _) _)) ((H1.call hb).call ((Below.refl _ _).alloc (Nat.le_refl _) _)) f0 f1 (by omega)).mono ?_; rintro e w2 ⟨x2, rfl, hd, b2⟩
      have hm := MapI.made wo
      have hm2 := hm.keep (b2.block _ hm.lt)
      have bw2 : Below w.heap.size w w2 := (hb.alloc hs _).trans (b2.mono (by simp; omega))
      have s2 := bw2.size
      have hml := hm.lt
      have HS2 := keepBack (show wo.heap.size < w2.heap.size from Nat.lt_of_lt_of_le hml b2.size)
      have HD1 := keepBack (fineC_all HF1.out)
      have hdl := fineC_len HF1.out (by omega)
      generalize betw a b = D1 at *
      obtain ⟨ax, cx, rfl, hcx, hmx, _⟩ := hd.shape
      unfold maxLen at hmx
      clear b2 hm hml
      go_wp2_with fail
      go_loopw [40] (fun i wr => ∃ (k : Nat), k ≤ D1.length ∧ i = .int .i64 k ∧ Hid (w2.grownBy wr (some wo.heap.size)) ∧ MapI wr wo.heap.size k (mapOf (D1.take k))) (fun i _ => D1.length - (intOf i).toNat)
      case atStart => exact ⟨0, Nat.zero_le _, rfl, keepBack (World.grownBy.refl _ _), hm2⟩
      case round =>
        obtain ⟨k, hk', rfl, hgr, hmk⟩ := hrel
        have hbv : Below w.heap.size w wr := bw2.grown hgr.out s2 (fun g hg => by obtain rfl := Option.some.inj hg; exact hs)
        have hsv := hbv.size
        have hs2v := hgr.out.size
        have hdv := hd.keep (w' := wr) fun k (hS : _ ≤ k) hlt => hgr.out.block k hlt fun e => by
          have := Option.some.inj e
          simp at hS
          omega
        by_cases hlt : k < D1.length
        · obtain ⟨p, o, hix, _, hbs, ok1, ok2, ok3, hc0, hc1, hc2⟩ := hdv.idxChg aChg k k rfl hlt
          have hxb := HD1.out D1[k] (List.getElem_mem hlt)
          have hxv : -1 ≤ D1[k].2.2 ∧ D1[k].2.2 ≤ 996 := by simpa [valB] using hxb.2.2.2.1
          have HN := keepBack (show D1.take (k + 1) = D1.take k ++ [D1[k]] from List.take_succ_eq_append_getElem hlt)
          generalize D1[k] = x at *
          have T := Cell3.alloc wr 42 x.1 x.2.1 x.2.2
          have hmW := hmk.kept (World.grownBy_alloc wr (Obj.cells #[Value.int IntKind.i64 x.1, Value.int IntKind.i64 x.2.1, Value.int IntKind.i64 x.2.2] 42) none) (by simp)
          have hgW := World.grownBy_alloc wr (Obj.cells #[Value.int IntKind.i64 x.1, Value.int IntKind.i64 x.2.1, Value.int IntKind.i64 x.2.2] 42) (some wo.heap.size)
          clear hxb
          go_wp2_with (first
            | (at_mapUpdate; refine wpList_mapI rfl _ _ _ rfl rfl hmW (by omega) rfl rfl ok1 (ok_small (by omega)) ?_; intro w5 hm5 hg5)
            | fail)
          go_wp2
          go_roundw
          case rel =>
            refine ⟨k + 1, by omega, by go_num, keepBack ((hgr.out.trans hgW).trans hg5), ?_⟩
            rw [HN.out, mapOf_snoc]
            have e2 : x.2.2 + 1 + 1 = x.2.2 + 2 := by omega
            simpa [e2] using hm5
          case measure => simp [intOf]; omega
        · have HE := keepBack (show mapOf (D1.take k) = mapOf D1 by rw [List.take_of_length_le (by omega)])
          rw [HE.out] at hmk
          generalize mapOf D1 = f at *
          have HMU := keepBack hmk
          clear HE hdv hd hm2
          go_wp2_with fail
          refine (cloneOwn _ b S wr (H1.call hbv) (by omega)).mono ?_; rintro e w3 ⟨x3, rfl, ho3, b3⟩
          have hbv3 := hbv.trans (b3.mono hsv)
          have s3 := hbv3.size
          have hm3 := hmk.keep (b3.block _ hmk.lt)
          have HML := keepBack (show wo.heap.size < w3.heap.size from Nat.lt_of_lt_of_le hmk.lt b3.size)
          have hx3 := ho3.base hsv
          clear hmk ho3
          go_wp2_with fail
          refine (betweenR _ _ a c _ _ w3 (H0.call hbv3) (H2.call hbv3) f0 f2 (by omega)).mono ?_; rintro e w4 ⟨x4, rfl, hd4, b4⟩
          have hbv4 := hbv3.trans (b4.mono s3)
          have s4 := hbv4.size
          have hm4 := hm3.keep (b4.block _ hm3.lt)
          have HM4 := keepBack (show wo.heap.size < w4.heap.size from Nat.lt_of_lt_of_le HML.out b4.size)
          have hx4 := hx3.call b4
          have HD2 := keepBack (fineC_all HF2.out)
          have hdl2 := fineC_len HF2.out (by omega)
          clear hm3 hx3
          generalize betw a c = D2 at *
          have hd4' := hd4
          obtain ⟨ax4, cx4, rfl, hcx4, hmx4, _⟩ := hd4.shape
          unfold maxLen at hmx4
          have hm4' := hm4
          go_wp2_with fail
          go_loopw [15, 16, 58] (fun out clash i wr => ∃ (k : Nat), k ≤ D2.length ∧ i = .int .i64 k ∧ Below w4.heap.size w4 wr ∧ Own tRow 64 wr w.heap.size (fun _ => False) out (setAll b ((D2.take k).filter (freeB f))) ∧ Own tInt 3 wr w4.heap.size (fun _ => False) clash (((D2.take k).filter (clashB f)).map (·.1))) (fun _ _ i _ => D2.length - (intOf i).toNat)
          case atStart => exact ⟨0, Nat.zero_le _, rfl, Below.refl _ _, hx4, .nil⟩
          case round =>
            obtain ⟨k2, hk2, rfl, hbr, hout, hcl⟩ := hrel
            have hsr := hbr.size
            have hbw := hbv4.trans (hbr.mono s4)
            have hsw := hbw.size
            by_cases hlt2 : k2 < D2.length
            · obtain ⟨p, o, hix, _, hbs, ok1, ok2, ok3, hc0, hc1, hc2⟩ := (hd4'.call hbr).idxChg aChg k2 k2 rfl hlt2
              have hxb := HD2.out D2[k2] (List.getElem_mem hlt2)
              have hxv : -1 ≤ D2[k2].2.2 ∧ D2[k2].2.2 ≤ 996 := by simpa [valB] using hxb.2.2.2.1
              have hxk : -1 < D2[k2].1 ∧ D2[k2].1 ≤ 99 := ⟨hxb.1, hxb.2.1⟩
              have HN := keepBack (show D2.take (k2 + 1) = D2.take k2 ++ [D2[k2]] from List.take_succ_eq_append_getElem hlt2)
              have HOR := keepBack (show riseB (-1) (setAll b ((D2.take k2).filter (freeB f))) = true from setAll_rise (by omega) HRB.out (fineC_filter _ (fineC_take HF2.out k2)))
              have hol : (setAll b ((D2.take k2).filter (freeB f))).length ≤ 1000 := by
                have h1 := setAll_len b ((D2.take k2).filter (freeB f))
                have h2 := List.length_filter_le (freeB f) (D2.take k2)
                rw [List.length_take] at h2
                omega
              have hcll : (((D2.take k2).filter (clashB f)).map (·.1)).length ≤ 1000 := by
                have h2 := List.length_filter_le (clashB f) (D2.take k2)
                rw [List.length_take] at h2
                rw [List.length_map]
                omega
              generalize D2[k2] = x at *
              have HFR := keepBack (show setAll b ((D2.take (k2 + 1)).filter (freeB f)) = if freeB f x = true then setL (setAll b ((D2.take k2).filter (freeB f))) x.1 x.2.2 else setAll b ((D2.take k2).filter (freeB f)) by
                rw [HN.out, List.filter_append, List.filter_cons]
                split
                · rw [List.filter_nil, setAll_snoc]
                · rw [List.filter_nil, List.append_nil])
              have HCR := keepBack (show ((D2.take (k2 + 1)).filter (clashB f)).map (·.1) = if clashB f x = true then ((D2.take k2).filter (clashB f)).map (·.1) ++ [x.1] else ((D2.take k2).filter (clashB f)).map (·.1) by
                rw [HN.out, List.filter_append, List.filter_cons]
                split
                · rw [List.filter_nil, List.map_append]; rfl
                · rw [List.filter_nil, List.append_nil])
              generalize setAll b ((D2.take k2).filter (freeB f)) = M at *
              generalize ((D2.take k2).filter (clashB f)).map (·.1) = G at *
              have T := Cell3.alloc wr 42 x.1 x.2.1 x.2.2
              have hmW := (hm4'.keep (hbr.block _ HM4.out)).kept (World.grownBy_alloc wr (Obj.cells #[Value.int IntKind.i64 x.1, Value.int IntKind.i64 x.2.1, Value.int IntKind.i64 x.2.2] 42) none) (by simp)
              have hlook := hmW.look ok1
              have houtW := hout.alloc (Obj.cells #[Value.int IntKind.i64 x.1, Value.int IntKind.i64 x.2.1, Value.int IntKind.i64 x.2.2] 42)
              have hclW := hcl.alloc (Obj.cells #[Value.int IntKind.i64 x.1, Value.int IntKind.i64 x.2.1, Value.int IntKind.i64 x.2.2] 42)
              have hbW := hbr.alloc hsr (Obj.cells #[Value.int IntKind.i64 x.1, Value.int IntKind.i64 x.2.1, Value.int IntKind.i64 x.2.2] 42)
              have hapart := hout.apart hcl (by decide)
              have HFB := keepBack (show freeB f x = decide ((f x.1).getD 0 = 0) from rfl)
              have HCB := keepBack (show clashB f x = (!decide ((f x.1).getD 0 = 0) && !decide ((f x.1).getD 0 = x.2.2 + 2)) from rfl)
              generalize (f x.1).getD 0 = n at *
              clear hmW hxb
              by_cases hn0 : n = 0
              · have HF' : Hid (freeB f x = true) := keepBack (by rw [HFB.out]; simpa using hn0)
                have HC' : Hid (clashB f x = false) := keepBack (by rw [HCB.out]; simp [hn0])
                have hq : (n == 0) = true := by simpa using hn0
                clear hn0
                have hslo := houtW.sl (D := fun k => w.heap.size ≤ k) (fun _ h => h.elim) (fun _ h => h)
                go_wp2_with fail
                refine (rowsSet _ M x.1 x.2.2 _ _ hslo HOR.out (by omega) ⟨ok1, ok3⟩).mono ?_; rintro e w5 ⟨x5, rfl, ho5, b5⟩
                have hb5 := hbW.trans (b5.mono hbW.size)
                have hcl5 := hclW.call b5
                go_wp2
                go_roundw
                case rel => exact ⟨k2 + 1, by omega, by go_num, hb5, by rw [HFR.out, if_pos HF'.out]; exact ho5.base (by simp; omega), by rw [HCR.out, HC'.out]; exact hcl5⟩
                case measure => simp [intOf]; omega
              · have HF' : Hid (freeB f x = false) := keepBack (by rw [HFB.out]; simpa using hn0)
                have hq : (n == 0) = false := by simpa using hn0
                have e2 : x.2.2 + 1 + 1 = x.2.2 + 2 := by omega
                by_cases hn2 : n = x.2.2 + 2
                · have HC' : Hid (clashB f x = false) := keepBack (by rw [HCB.out]; simp [hn2])
                  have hq2 : (n == x.2.2 + 2) = true := by simpa using hn2
                  clear hn0 hn2
                  go_wp2
                  go_roundw
                  case rel => exact ⟨k2 + 1, by omega, by go_num, hbW, by rw [HFR.out, HF'.out]; exact houtW, by rw [HCR.out, HC'.out]; exact hclW⟩
                  case measure => simp [intOf]; omega
                · have HC' : Hid (clashB f x = true) := keepBack (by rw [HCB.out]; simp [hn2, hn0])
                  have hq2 : (n == x.2.2 + 2) = false := by simpa using hn2
                  clear hn0 hn2
                  obtain ⟨ag, cg, rfl, _, _⟩ := hcl.shape
                  have hgb := hcl.block
                  have hsrc : Src tInt ((wr.alloc (Obj.cells #[Value.int IntKind.i64 x.1, Value.int IntKind.i64 x.2.1, Value.int IntKind.i64 x.2.2] 42)).alloc (Obj.cells #[Value.int IntKind.i64 x.1] 3)) (fun _ => False) (some ⟨wr.heap.size + 1, 0, none⟩) [x.1] := by
                    have := Src.one (cs := [.int .i64 x.1]) (tInt_mk (wr.alloc (Obj.cells #[Value.int IntKind.i64 x.1, Value.int IntKind.i64 x.2.1, Value.int IntKind.i64 x.2.2] 42)) (fun _ => False) x.1 ok1) 3
                    simpa using this
                  have HB2 : G.length + [x.1].length ≤ 1000000000000 := by simp; omega
                  go_wp2_with (first
                    | (at_builtin; refine wpList_grow rfl (.tmp 67) (.tmp 70) rfl aIntS rfl (hclW.alloc _) rfl rfl hsrc nofun (fun _ h => h.elim) HB2 (Nat.le_trans hbW.size (Nat.le_of_lt (World.size_lt_alloc _ _))) ?_; intro v5 w5 ho5 hg5)
                    | fail)
                  have hbA := hbW.alloc hbW.size (Obj.cells #[Value.int IntKind.i64 x.1] 3)
                  have hb5 : Below w4.heap.size w4 w5 := hbA.grown hg5 hbA.size (fun g hg => (hgb g hg).1)
                  have hout5 := (houtW.alloc (Obj.cells #[Value.int IntKind.i64 x.1] 3)).keep (w' := w5) fun k hk hlt => hg5.block k hlt fun e => by
                    rcases hk with hk | hk
                    · exact hk.elim
                    · exact hapart k hk e.symm
                  go_wp2
                  go_roundw
                  case rel => exact ⟨k2 + 1, by omega, by go_num, hb5, by rw [HFR.out, HF'.out]; exact hout5, by rw [HCR.out, if_pos HC'.out]; exact ho5⟩
                  case measure => simp [intOf]; omega
            · have HE2 := keepBack (show D2.take k2 = D2 from List.take_of_length_le (by omega))
              rw [HE2.out, HROW.out] at hout
              rw [HE2.out, HCL.out] at hcl
              have hslo := hout.sl (D := fun k => w.heap.size ≤ k) (fun _ h => h.elim) (fun _ h => h)
              have hslc := hcl.sl (D := fun k => w.heap.size ≤ k) (fun _ h => h.elim) (fun k hk => Nat.le_trans s4 hk)
              clear hout hcl
              generalize mergeL a b c = M at *
              generalize clashL a b c = G at *
              obtain ⟨ax, cx, rfl, _, _, _⟩ := hslo.shape
              obtain ⟨ay, cy, rfl, _, _, _⟩ := hslc.shape
              by_cases h4 : 40 < M.length
              · have HP := keepBack (HPM.out h4)
                go_wp2
                go_ret3
                exact ⟨_, rfl, ⟨_, _, by rw [HP.out]; rfl, by rw [HP.out]; exact Sl.nil _ _ _, by rw [HP.out]; exact Sl.nil _ _ _⟩, hbw⟩
              · have HP := keepBack (HPO.out h4)
                go_wp2
                go_ret3
                exact ⟨_, rfl, ⟨_, _, by rw [HP.out]; rfl, by rw [HP.out]; exact hslo, by rw [HP.out]; exact hslc⟩, hbw⟩

end Go.Pch

namespace Go.Pch
open Go.RowKit Go.Proofs
set_option maxRecDepth 100000

theorem heap3_0 (w : World) (A B C : Obj) : (((w.alloc A).alloc B).alloc C).heap[w.heap.size]? = some A :=
  (Below.heap_alloc _ C _ (by simp; omega)).trans (heap_alloc2_old w A B)
theorem heap3_1 (w : World) (A B C : Obj) : (((w.alloc A).alloc B).alloc C).heap[w.heap.size + 1]? = some B :=
  (Below.heap_alloc _ C _ (by simp)).trans (heap_alloc2_new w A B)
theorem heap3_2 (w : World) (A B C : Obj) : (((w.alloc A).alloc B).alloc C).heap[w.heap.size + 1 + 1]? = some C := by
  have := heap_alloc2_new (w.alloc A) B C
  simpa using this
/-- Three tables, one behind the other. -/
structure T3 (W : World) (g : Nat) (x y z : Int → Int) : Prop where
  tx : TabAt W g x
  ty : TabAt W (g + 1) y
  tz : TabAt W (g + 1 + 1) z
theorem T3.drewN {W : World} {g : Nat} {x y z : Int → Int} (h : T3 W g x y z) (n : Nat) : T3 (W.drewN n) g x y z := ⟨h.tx, h.ty, h.tz⟩
theorem T3.drew {W : World} {g : Nat} {x y z : Int → Int} (h : T3 W g x y z) : T3 W.drew g x y z := ⟨h.tx, h.ty, h.tz⟩
theorem T3.below {W W' : World} {g N : Nat} {x y z : Int → Int} (h : T3 W g x y z) (hb : Below N W W') (hN : g + 1 + 1 < N) : T3 W' g x y z :=
  ⟨(hb.block _ (by omega)).trans h.tx, (hb.block _ (by omega)).trans h.ty, (hb.block _ (by omega)).trans h.tz⟩
theorem T3.same {W : World} {g : Nat} {x y y' z : Int → Int} (h : T3 W g x y z) (e : ∀ k : Int, 0 ≤ k → k < 100 → y k = y' k) : T3 W g x y' z := ⟨h.tx, h.ty.same e, h.tz⟩
theorem T3.set {W : World} {g : Nat} {x y z : Int → Int} (h : T3 W g x y z) (k : Nat) (hk : k < 100) (v : Int) : T3 (W.setCell ⟨g + 1, k, none⟩ (.int .i64 v)) g x (fun j => if j = k then v else y j) z :=
  ⟨h.tx.other _ _ (by simp), h.ty.set k hk v, h.tz.other _ _ (by simp)⟩

set_option maxHeartbeats 8000000 in
theorem refMergeOf (v0 v1 v2 : Value) (a b c : List Row) (S : Blk) (w : World) (h0 : Sl tRow w S v0 a) (h1 : Sl tRow w S v1 b) (h2 : Sl tRow w S v2 c) :
    Calls Try.prog 15 #[v0, v1, v2] w (Ret w fun r w' => ∃ x y, r = .tuple #[x, y, .int .i64 (mergeP a b c).2.2] ∧ Sl tRow w' (fun k => w.heap.size ≤ k) x (mergeP a b c).1 ∧ Sl tInt w' (fun k => w.heap.size ≤ k) y (mergeP a b c).2.1) := by
  have H0 := h0
  have H1 := h1
  have H2 := h2
  obtain ⟨a0, c0, rfl, _, _, _⟩ := h0.shape
  obtain ⟨a1, c1, rfl, _, _, _⟩ := h1.shape
  obtain ⟨a2, c2, rfl, _, _, _⟩ := h2.shape
  obtain ⟨l0, l1, l2⟩ := lit3_cells w (.slice a0 a.length c0) (.slice a1 b.length c1) (.slice a2 c.length c2) 22
  go_enter Try.func15, Try.ntmps15
  go_wp2_with fail
  go_loopw [10] (fun i wr => ∃ (k : Nat), k ≤ 3 ∧ i = .int .i64 k ∧ Below w.heap.size w wr ∧ wr.cell? ⟨w.heap.size, 0, none⟩ = some (.slice a0 a.length c0) ∧ wr.cell? ⟨w.heap.size, 1, none⟩ = some (.slice a1 b.length c1) ∧ wr.cell? ⟨w.heap.size, 2, none⟩ = some (.slice a2 c.length c2) ∧ Hid (errL [a, b, c] = errL ([a, b, c].drop k))) (fun i _ => 3 - (intOf i).toNat)
  case atStart => exact ⟨0, by omega, rfl, (Below.refl _ _).alloc (Nat.le_refl _) _, l0, l1, l2, keepBack rfl⟩
  case round =>
    obtain ⟨k, hk, rfl, hb, hc0, hc1, hc2, HE⟩ := hrel
    have hs := hb.size
    clear l0 l1 l2
    have hcases : k = 0 ∨ k = 1 ∨ k = 2 ∨ k = 3 := by omega
    rcases hcases with rfl | rfl | rfl | rfl
    · have hi := lev_idx w.heap.size 3 0 (by omega)
      by_cases hz : rowsErr a = 0
      · have HZ := keepBack hz
        go_wp2_with fail
        refine (refRowsErrorOf _ a S wr (H0.call hb) hz).mono ?_; rintro e w1 ⟨rfl, d1⟩
        have b1 := d1.below
        clear hz
        go_wp2
        go_roundw
        case rel => exact ⟨1, by omega, rfl, hb.trans (b1.mono hs), (b1.cell (p := ⟨w.heap.size, 0, none⟩) (World.block_lt_of_cell? _ _ hc0)).trans hc0, (b1.cell (p := ⟨w.heap.size, 1, none⟩) (World.block_lt_of_cell? _ _ hc1)).trans hc1, (b1.cell (p := ⟨w.heap.size, 2, none⟩) (World.block_lt_of_cell? _ _ hc2)).trans hc2, keepBack (by rw [HE.out, errL_go (X := [a, b, c]) (k := 0) (l := a) rfl HZ.out])⟩
        case measure => simp [intOf]
      · have hq : (rowsErr a != 0) = true := by simp [hz]
        have hst := errL_stop (X := [a, b, c]) (k := 0) (l := a) rfl hz
        have HV := keepBack (HE.out.trans hst)
        have HP := keepBack (mergeP_bad (a := a) (b := b) (c := c) (by rw [HV.out]; exact hz))
        clear hst
        go_wp2_with fail
        refine (refRowsError _ a S wr (H0.call hb)).mono ?_; rintro e w1 ⟨rfl, d1⟩
        clear hz
        go_wp2
        go_ret3
        exact ⟨_, rfl, ⟨_, _, by rw [HP.out, HV.out]; rfl, by rw [HP.out]; exact Sl.nil _ _ _, by rw [HP.out]; exact Sl.nil _ _ _⟩, hb.trans (d1.below.mono hs)⟩
    · have hi := lev_idx w.heap.size 3 1 (by omega)
      by_cases hz : rowsErr b = 0
      · have HZ := keepBack hz
        go_wp2_with fail
        refine (refRowsErrorOf _ b S wr (H1.call hb) hz).mono ?_; rintro e w1 ⟨rfl, d1⟩
        have b1 := d1.below
        clear hz
        go_wp2
        go_roundw
        case rel => exact ⟨2, by omega, rfl, hb.trans (b1.mono hs), (b1.cell (p := ⟨w.heap.size, 0, none⟩) (World.block_lt_of_cell? _ _ hc0)).trans hc0, (b1.cell (p := ⟨w.heap.size, 1, none⟩) (World.block_lt_of_cell? _ _ hc1)).trans hc1, (b1.cell (p := ⟨w.heap.size, 2, none⟩) (World.block_lt_of_cell? _ _ hc2)).trans hc2, keepBack (by rw [HE.out, errL_go (X := [a, b, c]) (k := 1) (l := b) rfl HZ.out])⟩
        case measure => simp [intOf]
      · have hq : (rowsErr b != 0) = true := by simp [hz]
        have hst := errL_stop (X := [a, b, c]) (k := 1) (l := b) rfl hz
        have HV := keepBack (HE.out.trans hst)
        have HP := keepBack (mergeP_bad (a := a) (b := b) (c := c) (by rw [HV.out]; exact hz))
        clear hst
        go_wp2_with fail
        refine (refRowsError _ b S wr (H1.call hb)).mono ?_; rintro e w1 ⟨rfl, d1⟩
        clear hz
        go_wp2
        go_ret3
        exact ⟨_, rfl, ⟨_, _, by rw [HP.out, HV.out]; rfl, by rw [HP.out]; exact Sl.nil _ _ _, by rw [HP.out]; exact Sl.nil _ _ _⟩, hb.trans (d1.below.mono hs)⟩
    · have hi := lev_idx w.heap.size 3 2 (by omega)
      by_cases hz : rowsErr c = 0
      · have HZ := keepBack hz
        go_wp2_with fail
        refine (refRowsErrorOf _ c S wr (H2.call hb) hz).mono ?_; rintro e w1 ⟨rfl, d1⟩
        have b1 := d1.below
        clear hz
        go_wp2
        go_roundw
        case rel => exact ⟨3, by omega, rfl, hb.trans (b1.mono hs), (b1.cell (p := ⟨w.heap.size, 0, none⟩) (World.block_lt_of_cell? _ _ hc0)).trans hc0, (b1.cell (p := ⟨w.heap.size, 1, none⟩) (World.block_lt_of_cell? _ _ hc1)).trans hc1, (b1.cell (p := ⟨w.heap.size, 2, none⟩) (World.block_lt_of_cell? _ _ hc2)).trans hc2, keepBack (by rw [HE.out, errL_go (X := [a, b, c]) (k := 2) (l := c) rfl HZ.out])⟩
        case measure => simp [intOf]
      · have hq : (rowsErr c != 0) = true := by simp [hz]
        have hst := errL_stop (X := [a, b, c]) (k := 2) (l := c) rfl hz
        have HV := keepBack (HE.out.trans hst)
        have HP := keepBack (mergeP_bad (a := a) (b := b) (c := c) (by rw [HV.out]; exact hz))
        clear hst
        go_wp2_with fail
        refine (refRowsError _ c S wr (H2.call hb)).mono ?_; rintro e w1 ⟨rfl, d1⟩
        clear hz
        go_wp2
        go_ret3
        exact ⟨_, rfl, ⟨_, _, by rw [HP.out, HV.out]; rfl, by rw [HP.out]; exact Sl.nil _ _ _, by rw [HP.out]; exact Sl.nil _ _ _⟩, hb.trans (d1.below.mono hs)⟩
    · have herr : errL [a, b, c] = 0 := HE.out
      obtain ⟨ra, rb, rc⟩ := errL_three herr
      obtain ⟨la, ra'⟩ := ok_rise ra
      obtain ⟨lb, rb'⟩ := ok_rise rb
      obtain ⟨lc, rc'⟩ := ok_rise rc
      have HPM := keepBack (mergeP_many herr)
      have HPO := keepBack (mergeP_ok herr)
      obtain ⟨wo, rfl⟩ : ∃ wo : World, wo = wr := ⟨_, rfl⟩
      have HX := keepBack (valueOf_bounds ra')
      have HY := keepBack (valueOf_bounds rb')
      have HZ := keepBack (valueOf_bounds rc')
      clear hc0 hc1 hc2 herr ra rb rc ra' rb' rc'
      go_wp2_with fail
      refine (refSpreadA _ a S wo (H0.call hb)).mono ?_; rintro e w1 ⟨_, rfl, ⟨A, rfl, HA, HSZ, HONE, HLN⟩, b1⟩
      have b01 := hb.trans (b1.mono hs)
      have s1 := b01.size
      go_wp2_with fail
      refine (refSpreadA _ b S w1 (H1.call b01)).mono ?_; rintro e w2 ⟨_, rfl, ⟨A2, rfl, HA2, HSZ2, HONE2, HLN2⟩, b2⟩
      have b02 := b01.trans (b2.mono s1)
      have s2 := b02.size
      go_wp2_with fail
      refine (refSpreadA _ c S w2 (H2.call b02)).mono ?_; rintro e w3 ⟨_, rfl, ⟨A3, rfl, HA3, HSZ3, HONE3, HLN3⟩, b3⟩
      have b03 := b02.trans (b3.mono s2)
      have s3 := b03.size
      go_wp2_with (first
        | (refine wpList_store_row rfl 67 (.tmp 12) (.tmp 37) rfl w3.heap.size A rfl rfl _ _ (heap3_0 w3 _ _ _) HSZ.out (by rw [HLN.out] <;> rfl) HONE.out ?_
           generalize hW : World.setRow _ _ _ = W4
           have HG0 := keepBack (show W4.heap[w3.heap.size]? = some (.cells A 67) by rw [← hW]; exact setRow_heap _ _ _ _ _ _ (heap3_0 w3 _ _ _))
           obtain ⟨Z1, HG1, HZ1⟩ : ∃ Z : Array Value, Hid (W4.heap[w3.heap.size + 1]? = some (.cells Z 67)) ∧ Hid (Z.size = 100) := ⟨_, keepBack (by rw [← hW, setRow_other _ _ _ _ (by omega)]; exact heap3_1 w3 _ _ _), keepBack rfl⟩
           obtain ⟨Z2, HG2, HZ2⟩ : ∃ Z : Array Value, Hid (W4.heap[w3.heap.size + 1 + 1]? = some (.cells Z 67)) ∧ Hid (Z.size = 100) := ⟨_, keepBack (by rw [← hW, setRow_other _ _ _ _ (by omega)]; exact heap3_2 w3 _ _ _), keepBack rfl⟩
           have hb4 : Below w.heap.size w W4 := by rw [← hW]; exact below_setRow (((b03.alloc (by omega) _).alloc (by simp; omega) _).alloc (by simp; omega) _) (by omega) _
           clear hW)
        | (refine wpList_store_row rfl 67 (.tmp 13) (.tmp 39) rfl (w3.heap.size + 1) A2 rfl rfl _ _ HG1.out HSZ2.out (by rw [HLN2.out, HZ1.out]) HONE2.out ?_
           generalize hW : World.setRow _ _ _ = W5
           have HK0 := keepBack (show W5.heap[w3.heap.size]? = some (.cells A 67) by rw [← hW, setRow_other _ _ _ _ (by omega)]; exact HG0.out)
           have HK1 := keepBack (show W5.heap[w3.heap.size + 1]? = some (.cells A2 67) by rw [← hW]; exact setRow_heap _ _ _ _ _ _ HG1.out)
           have HK2 := keepBack (show W5.heap[w3.heap.size + 1 + 1]? = some (.cells Z2 67) by rw [← hW, setRow_other _ _ _ _ (by omega)]; exact HG2.out)
           have hb5 : Below w.heap.size w W5 := by rw [← hW]; exact below_setRow hb4 (by omega) _
           clear hW)
        | (refine wpList_store_row rfl 67 (.tmp 14) (.tmp 41) rfl (w3.heap.size + 1 + 1) A3 rfl rfl _ _ HK2.out HSZ3.out (by rw [HLN3.out, HZ2.out]) HONE3.out ?_
           generalize hW : World.setRow _ _ _ = W6
           have HT1 := keepBack (show TabAt W6 w3.heap.size (valueOf a) by unfold TabAt; rw [← HA.out, ← hW, setRow_other _ _ _ _ (by omega)]; exact HK0.out)
           have HT2 := keepBack (show TabAt W6 (w3.heap.size + 1) (valueOf b) by unfold TabAt; rw [← HA2.out, ← hW, setRow_other _ _ _ _ (by omega)]; exact HK1.out)
           have HT3 := keepBack (show TabAt W6 (w3.heap.size + 1 + 1) (valueOf c) by unfold TabAt; rw [← HA3.out, ← hW]; exact setRow_heap _ _ _ _ _ _ HK2.out)
           have hb6 : Below w.heap.size w W6 := by rw [← hW]; exact below_setRow hb5 (by omega) _
           clear hW)
        | fail)
      have hT6 : T3 W6 w3.heap.size (valueOf a) (valueOf b) (valueOf c) := ⟨HT1.out, HT2.out, HT3.out⟩
      have hN6 := HT3.out.lt
      clear HT1 HT2 HT3 HK0 HK1 HK2 HG0 HG1 HG2 HZ1 HZ2 HA HA2 HA3 HSZ HSZ2 HSZ3 HONE HONE2 HONE3 HLN HLN2 HLN3 hb4 hb5
      have HMER := keepBack (show mergeL a b c = folded (mergeT (valueOf a) (valueOf b) (valueOf c)) from rfl)
      have HCLA := keepBack (show clashL a b c = clashFrom (valueOf a) (valueOf b) (valueOf c) 100 0 from rfl)
      generalize valueOf a = x at *
      generalize valueOf b = y at *
      generalize valueOf c = z at *
      go_loopw [15, 16] (fun clash i wr => ∃ (k : Nat) (G : List Int), k ≤ 100 ∧ i = .int .i64 k ∧ Below w.heap.size w wr ∧ w3.heap.size + 3 ≤ wr.heap.size ∧ T3 wr w3.heap.size x (fun j => if j < (k : Int) then mergeT x y z j else y j) z ∧ Own tInt 3 wr (w3.heap.size + 3) (fun _ => False) clash G ∧ G.length ≤ k ∧ Hid (clashFrom x y z 100 0 = G ++ clashFrom x y z (100 - k) k)) (fun _ i _ => 100 - (intOf i).toNat)
      case atStart => exact ⟨0, [], by omega, rfl, hb6, hN6, hT6.same fun k h0 _ => by rw [if_neg (by simpa using h0)], .nil, Nat.zero_le _, keepBack rfl⟩
      case round =>
        obtain ⟨k, G, hk', rfl, hbr, hN', hT, ho, hG, HF⟩ := hrel
        have hsr := hbr.size
        by_cases hlt : k < 100
        · have hi0 : (0 : Int) ≤ k := by omega
          have hi9 : (k : Int) < 100 := by omega
          have hcx := hT.tx.cell k hlt
          have hcy := hT.ty.cell k hlt
          have hcz := hT.tz.cell k hlt
          have hbl : Below (w3.heap.size + 3) wr wr := Below.refl _ _
          have HM := keepBack (show mergeT x y z k = if y k = z k then y k else if y k = x k then z k else y k from rfl)
          have HC := keepBack (show clashFrom x y z (100 - k) k = if y k ≠ z k ∧ y k ≠ x k ∧ z k ≠ x k then (k : Int) :: clashFrom x y z (100 - (k + 1)) ((k : Int) + 1) else clashFrom x y z (100 - (k + 1)) ((k : Int) + 1) by
            rw [show 100 - k = (100 - (k + 1)) + 1 by omega, clashFrom])
          have HBX := HX.out (k : Int)
          have HBY := HY.out (k : Int)
          have HBZ := HZ.out (k : Int)
          simp only [show ¬ (k : Int) < k by omega, if_false] at hcy
          have hstay : ∀ W, T3 W w3.heap.size x (fun j => if j < (k : Int) then mergeT x y z j else y j) z → mergeT x y z k = y k → T3 W w3.heap.size x (fun j => if j < ((k + 1 : Nat) : Int) then mergeT x y z j else y j) z := fun W hW he => hW.same fun j h0 h1 => by
            show (if j < (k : Int) then mergeT x y z j else y j) = (if j < ((k + 1 : Nat) : Int) then mergeT x y z j else y j)
            by_cases hj : j < (k : Int)
            · rw [if_pos hj, if_pos (by omega)]
            · rw [if_neg hj]
              by_cases hj2 : j < ((k + 1 : Nat) : Int)
              · rw [if_pos hj2, show j = (k : Int) by omega, he]
              · rw [if_neg hj2]
          obtain ⟨xk, hxk⟩ : ∃ n, x (k : Int) = n := ⟨_, rfl⟩
          obtain ⟨yk, hyk⟩ : ∃ n, y (k : Int) = n := ⟨_, rfl⟩
          obtain ⟨zk, hzk⟩ : ∃ n, z (k : Int) = n := ⟨_, rfl⟩
          have HXK := keepBack hxk
          have HYK := keepBack hyk
          have HZK := keepBack hzk
          rw [hxk] at hcx
          rw [hyk] at hcy
          rw [hzk] at hcz
          rw [hxk] at HBX
          rw [hyk] at HBY
          rw [hzk] at HBZ
          clear hxk hyk hzk
          by_cases e1 : yk = zk
          · have q1 : (yk == zk) = true := by simpa using e1
            have HM' : Hid (mergeT x y z k = y k) := keepBack (by rw [HM.out, HYK.out, HZK.out, if_pos e1])
            have HF2 : Hid (clashFrom x y z 100 0 = G ++ clashFrom x y z (100 - (k + 1)) ((k + 1 : Nat) : Int)) := keepBack (by rw [HF.out, HC.out, if_neg (by rw [HYK.out, HZK.out]; exact fun h => h.1 e1)]; simp)
            clear e1 HM HC HF
            go_wp2_with fail
            go_quiet (fail)
            replace hbr := hbr.trans (((Drawn.refl wr).next nq).below.mono hsr)
            replace hT := hT.drewN nq
            replace ho : Own tInt 3 (wr.drewN nq) (w3.heap.size + 3) (fun _ => False) _ G := ho.keep fun _ _ _ => rfl
            replace hN' : w3.heap.size + 3 ≤ (wr.drewN nq).heap.size := hN'
            generalize wr.drewN nq = wq1 at *
            replace hcx := hT.tx.cell k hlt
            replace hcy := hT.ty.cell k hlt
            replace hcz := hT.tz.cell k hlt
            simp only [show ¬ (k : Int) < k by omega, if_false, HXK.out, HYK.out, HZK.out] at hcx hcy hcz
            replace hsr := hbr.size
            go_wp2
            go_roundw
            case rel => exact ⟨k + 1, G, by omega, by go_num, hbr, hN', hstay _ hT HM'.out, ho, by omega, HF2⟩
            case measure => simp [intOf]; omega
          · have q1 : (yk == zk) = false := by simpa using e1
            by_cases e2 : yk = xk
            · have q2 : (yk == xk) = true := by simpa using e2
              have HM' : Hid (mergeT x y z k = zk) := keepBack (by rw [HM.out, HYK.out, HZK.out, HXK.out, if_neg e1, if_pos e2])
              have HF2 : Hid (clashFrom x y z 100 0 = G ++ clashFrom x y z (100 - (k + 1)) ((k + 1 : Nat) : Int)) := keepBack (by rw [HF.out, HC.out, if_neg (by rw [HYK.out, HXK.out]; exact fun h => h.2.1 e2)]; simp)
              clear e1 e2 HM HC HF
              go_wp2_with fail
              go_quiet (fail)
              replace hbr := hbr.trans (((Drawn.refl wr).next nq).below.mono hsr)
              replace hT := hT.drewN nq
              replace ho : Own tInt 3 (wr.drewN nq) (w3.heap.size + 3) (fun _ => False) _ G := ho.keep fun _ _ _ => rfl
              replace hN' : w3.heap.size + 3 ≤ (wr.drewN nq).heap.size := hN'
              generalize wr.drewN nq = wq1 at *
              replace hcx := hT.tx.cell k hlt
              replace hcy := hT.ty.cell k hlt
              replace hcz := hT.tz.cell k hlt
              simp only [show ¬ (k : Int) < k by omega, if_false, HXK.out, HYK.out, HZK.out] at hcx hcy hcz
              replace hsr := hbr.size
              go_wp2_with fail
              go_quiet (fail)
              replace hbr := hbr.trans (((Drawn.refl wq1).next nq).below.mono hsr)
              replace hT := hT.drewN nq
              replace ho : Own tInt 3 (wq1.drewN nq) (w3.heap.size + 3) (fun _ => False) _ G := ho.keep fun _ _ _ => rfl
              replace hN' : w3.heap.size + 3 ≤ (wq1.drewN nq).heap.size := hN'
              generalize wq1.drewN nq = wq2 at *
              replace hcx := hT.tx.cell k hlt
              replace hcy := hT.ty.cell k hlt
              replace hcz := hT.tz.cell k hlt
              simp only [show ¬ (k : Int) < k by omega, if_false, HXK.out, HYK.out, HZK.out] at hcx hcy hcz
              replace hsr := hbr.size
              have hfy := hT.ty.free k
              have HTS := keepBack (hT.set k hlt zk)
              go_wp2
              go_roundw
              case rel =>
                refine ⟨k + 1, G, by omega, by go_num, hbr.setCell (by simp; omega) _, by simpa using hN', ?_, ho.keep fun j hj _ => ?_, by omega, HF2⟩
                · refine HTS.out.same fun j h0 h1 => ?_
                  by_cases hj : j = (k : Int)
                  · rw [if_pos hj, hj, if_pos (by omega), HM'.out]
                  · rw [if_neg hj]
                    by_cases hj2 : j < (k : Int)
                    · rw [if_pos hj2, if_pos (by omega)]
                    · rw [if_neg hj2, if_neg (by omega)]
                · refine heap_setCell_other _ _ _ _ ?_
                  rcases hj with hj | hj
                  · exact hj.elim
                  · have := (ho.block j hj).1; simp; omega
              case measure => simp [intOf]; omega
            · have q2 : (yk == xk) = false := by simpa using e2
              have HM' : Hid (mergeT x y z k = y k) := keepBack (by rw [HM.out, HYK.out, HZK.out, HXK.out, if_neg e1, if_neg e2])
              by_cases e3 : zk = xk
              · have q3 : (zk != xk) = false := by simpa using e3
                have HF2 : Hid (clashFrom x y z 100 0 = G ++ clashFrom x y z (100 - (k + 1)) ((k + 1 : Nat) : Int)) := keepBack (by rw [HF.out, HC.out, if_neg (by rw [HZK.out, HXK.out]; exact fun h => h.2.2 e3)]; simp)
                clear e1 e2 e3 HM HC HF
                go_wp2_with fail
                go_quiet (fail)
                replace hbr := hbr.trans (((Drawn.refl wr).next nq).below.mono hsr)
                replace hT := hT.drewN nq
                replace ho : Own tInt 3 (wr.drewN nq) (w3.heap.size + 3) (fun _ => False) _ G := ho.keep fun _ _ _ => rfl
                replace hN' : w3.heap.size + 3 ≤ (wr.drewN nq).heap.size := hN'
                generalize wr.drewN nq = wq1 at *
                replace hcx := hT.tx.cell k hlt
                replace hcy := hT.ty.cell k hlt
                replace hcz := hT.tz.cell k hlt
                simp only [show ¬ (k : Int) < k by omega, if_false, HXK.out, HYK.out, HZK.out] at hcx hcy hcz
                replace hsr := hbr.size
                go_wp2_with fail
                go_quiet (fail)
                replace hbr := hbr.trans (((Drawn.refl wq1).next nq).below.mono hsr)
                replace hT := hT.drewN nq
                replace ho : Own tInt 3 (wq1.drewN nq) (w3.heap.size + 3) (fun _ => False) _ G := ho.keep fun _ _ _ => rfl
                replace hN' : w3.heap.size + 3 ≤ (wq1.drewN nq).heap.size := hN'
                generalize wq1.drewN nq = wq2 at *
                replace hcx := hT.tx.cell k hlt
                replace hcy := hT.ty.cell k hlt
                replace hcz := hT.tz.cell k hlt
                simp only [show ¬ (k : Int) < k by omega, if_false, HXK.out, HYK.out, HZK.out] at hcx hcy hcz
                replace hsr := hbr.size
                go_wp2_with fail
                go_quiet (fail)
                replace hbr := hbr.trans (((Drawn.refl wq2).next nq).below.mono hsr)
                replace hT := hT.drewN nq
                replace ho : Own tInt 3 (wq2.drewN nq) (w3.heap.size + 3) (fun _ => False) _ G := ho.keep fun _ _ _ => rfl
                replace hN' : w3.heap.size + 3 ≤ (wq2.drewN nq).heap.size := hN'
                generalize wq2.drewN nq = wq3 at *
                replace hcx := hT.tx.cell k hlt
                replace hcy := hT.ty.cell k hlt
                replace hcz := hT.tz.cell k hlt
                simp only [show ¬ (k : Int) < k by omega, if_false, HXK.out, HYK.out, HZK.out] at hcx hcy hcz
                replace hsr := hbr.size
                go_wp2
                go_roundw
                case rel => exact ⟨k + 1, G, by omega, by go_num, hbr, hN', hstay _ hT HM'.out, ho, by omega, HF2⟩
                case measure => simp [intOf]; omega
              · have q3 : (zk != xk) = true := by simpa using e3
                have HF2 : Hid (clashFrom x y z 100 0 = (G ++ [(k : Int)]) ++ clashFrom x y z (100 - (k + 1)) ((k + 1 : Nat) : Int)) := keepBack (by rw [HF.out, HC.out, if_pos (by rw [HYK.out, HZK.out, HXK.out]; exact ⟨e1, e2, e3⟩)]; simp)
                clear e1 e2 e3 HM HC HF
                go_wp2_with fail
                go_quiet (fail)
                replace hbr := hbr.trans (((Drawn.refl wr).next nq).below.mono hsr)
                replace hT := hT.drewN nq
                replace ho : Own tInt 3 (wr.drewN nq) (w3.heap.size + 3) (fun _ => False) _ G := ho.keep fun _ _ _ => rfl
                replace hN' : w3.heap.size + 3 ≤ (wr.drewN nq).heap.size := hN'
                generalize wr.drewN nq = wq1 at *
                replace hcx := hT.tx.cell k hlt
                replace hcy := hT.ty.cell k hlt
                replace hcz := hT.tz.cell k hlt
                simp only [show ¬ (k : Int) < k by omega, if_false, HXK.out, HYK.out, HZK.out] at hcx hcy hcz
                replace hsr := hbr.size
                go_wp2_with fail
                go_quiet (fail)
                replace hbr := hbr.trans (((Drawn.refl wq1).next nq).below.mono hsr)
                replace hT := hT.drewN nq
                replace ho : Own tInt 3 (wq1.drewN nq) (w3.heap.size + 3) (fun _ => False) _ G := ho.keep fun _ _ _ => rfl
                replace hN' : w3.heap.size + 3 ≤ (wq1.drewN nq).heap.size := hN'
                generalize wq1.drewN nq = wq2 at *
                replace hcx := hT.tx.cell k hlt
                replace hcy := hT.ty.cell k hlt
                replace hcz := hT.tz.cell k hlt
                simp only [show ¬ (k : Int) < k by omega, if_false, HXK.out, HYK.out, HZK.out] at hcx hcy hcz
                replace hsr := hbr.size
                go_wp2_with fail
                go_quiet (fail)
                replace hbr := hbr.trans (((Drawn.refl wq2).next nq).below.mono hsr)
                replace hT := hT.drewN nq
                replace ho : Own tInt 3 (wq2.drewN nq) (w3.heap.size + 3) (fun _ => False) _ G := ho.keep fun _ _ _ => rfl
                replace hN' : w3.heap.size + 3 ≤ (wq2.drewN nq).heap.size := hN'
                generalize wq2.drewN nq = wq3 at *
                replace hcx := hT.tx.cell k hlt
                replace hcy := hT.ty.cell k hlt
                replace hcz := hT.tz.cell k hlt
                simp only [show ¬ (k : Int) < k by omega, if_false, HXK.out, HYK.out, HZK.out] at hcx hcy hcz
                replace hsr := hbr.size
                obtain ⟨ag, cg, rfl, _, _⟩ := ho.shape
                have hgb := ho.block
                have HB2 : G.length + [(k : Int)].length ≤ 1000000000000 := by simp; omega
                have hbN : Below (w3.heap.size + 3) wq3 (wq3.alloc (Obj.cells #[Value.int IntKind.i64 (k : Int)] 3)) := (Below.refl _ _).alloc hN' _
                go_wp2_with (first
                  | (at_builtin; refine wpList_grow rfl (.tmp 75) (.tmp 77) rfl aIntS rfl (ho.alloc _) rfl rfl (Src.one (cs := [_]) (tInt_mk wq3 (fun _ => False) (k : Int) (ok_small (by omega))) _) nofun (fun _ h => h.elim) HB2 (Nat.le_trans hN' (Nat.le_of_lt (World.size_lt_alloc _ _))) ?_; intro v5 w5 ho5 hg5)
                  | fail)
                have hb5 : Below (w3.heap.size + 3) wq3 w5 := hbN.grown hg5 (Nat.le_trans hN' (Nat.le_of_lt (World.size_lt_alloc _ _))) (fun g hg => (hgb g hg).1)
                go_wp2
                go_roundw
                case rel => exact ⟨k + 1, _, by omega, by go_num, hbr.trans (hb5.mono (by omega)), Nat.le_trans hN' hb5.size, hstay _ (hT.below hb5 (by omega)) HM'.out, ho5, by simp; omega, HF2⟩
                case measure => simp [intOf]; omega
        · obtain rfl : k = 100 := by omega
          have HF2 : Hid (clashFrom x y z 100 0 = G) := keepBack (by rw [HF.out, show 100 - 100 = 0 from rfl, clashFrom, List.append_nil])
          have hT' := hT.same (y' := mergeT x y z) fun j h0 h1 => by rw [if_pos (by omega)]
          have HT := keepBack hT'.ty
          unfold TabAt at HT
          have HBD := keepBack (mergeT_bounds (x := x) HY.out HZ.out)
          clear hT hT' hG
          rw [HF2.out] at HCLA
          go_wp2_with (first
            | (refine wpList_load_row rfl 67 (.tmp 13) rfl (w3.heap.size + 1) rfl _ _ _ _ HT.out Try.underlying67 rfl (tabSize' _) ?_)
            | fail)
          refine (refFolded _ wr HBD.out).mono ?_; rintro e w7 ⟨v7, rfl, h7, b7⟩
          rw [← HMER.out] at h7
          have hb7 := hbr.trans (b7.mono hsr)
          have h7' := h7.mono (S' := fun k => w.heap.size ≤ k) fun k hk _ => Nat.le_trans hsr hk
          have hsl := (ho.call b7).sl (D := fun k => w.heap.size ≤ k) (fun _ h => h.elim) (fun k hk => by omega)
          rw [← HCLA.out] at hsl
          clear h7 ho
          generalize mergeL a b c = M at *
          generalize clashL a b c = G at *
          obtain ⟨ax, cx, rfl, _, _, _⟩ := h7'.shape
          obtain ⟨ay, cy, rfl, _, _, _⟩ := hsl.shape
          by_cases h4 : 40 < M.length
          · have HP := keepBack (HPM.out h4)
            go_wp2
            go_ret3
            exact ⟨_, rfl, ⟨_, _, by rw [HP.out]; rfl, by rw [HP.out]; exact Sl.nil _ _ _, by rw [HP.out]; exact Sl.nil _ _ _⟩, hb7⟩
          · have HP := keepBack (HPO.out h4)
            go_wp2
            go_ret3
            exact ⟨_, rfl, ⟨_, _, by rw [HP.out]; rfl, by rw [HP.out]; exact h7', by rw [HP.out]; exact hsl⟩, hb7⟩

end Go.Pch

namespace Go.Pch
open Go.RowKit Go.Proofs
set_option maxRecDepth 100000

theorem Sl.idxIntS {w : World} {S : Blk} {v : Value} {P : Program} {T e : TypeId} {l : List Int} (h : Sl tInt w S v l) (hA : At P tInt T e) (n : Int) (i : Nat) (hn : n = (i : Int)) (hi : i < l.length) :
    ∃ b o, (∀ W, Sem.run P (Instr.indexAt T v (.int .i64 n)) W = .ok (.pointer (some ⟨b, o, none⟩)) W) ∧ S b ∧ b < w.heap.size ∧ i64ok l[i] ∧ w.cell? ⟨b, o, none⟩ = some (.int .i64 l[i]) := by
  obtain ⟨b, o, cs, h1, h2, h3, ⟨rfl, h5⟩, h7⟩ := h.idx hA n i hn hi
  exact ⟨b, o, h1, h2, h3, h5, by simpa using h7 0 _ rfl⟩

set_option maxHeartbeats 400000 in
theorem sameInts (v u : Value) (l m : List Int) (S S' : Blk) (w : World) (h : Sl tInt w S v l) (g : Sl tInt w S' u m) :
    Calls Try.prog 18 #[v, u] w (Quiet w (.bool (decide (l = m)))) := by
  obtain ⟨ao, cap, rfl, hcap, hmax, hnil⟩ := h.shape
  obtain ⟨ao', cap', rfl, hcap', hmax', hnil'⟩ := g.shape
  unfold maxLen at hmax hmax'
  by_cases he : l.length = m.length
  · have hne : (((l.length : Nat) : Int) != (m.length : Int)) = false := by simp [he]
    have hl1 : l.length ≤ m.length := by omega
    have hl2 : m.length ≤ l.length := by omega
    clear he
    go_enter Try.func18, Try.ntmps18
    go_wp2
    go_loopw [5] (fun i wr => ∃ (k : Nat), k ≤ l.length ∧ i = .int .i64 k ∧ Drawn w wr ∧ Hid (l.take k = m.take k)) (fun i _ => l.length - (intOf i).toNat)
    case atStart => exact ⟨0, Nat.zero_le _, rfl, .refl _, rfl⟩
    case round =>
      obtain ⟨k, hk, rfl, hd, hm⟩ := hrel
      by_cases hlt : k < l.length
      · obtain ⟨b, o, hix, _, hbs, ok, hc0⟩ := (h.call hd.below).idxIntS aIntS k k rfl hlt
        obtain ⟨b', o', hix', _, hbs', ok_, hc0'⟩ := (g.call hd.below).idxIntS aIntS k k rfl (by omega)
        by_cases hx : l[k] = m[k]
        · have Hx := keepBack hx
          have hq : (l[k] != m[k]) = false := by simp [hx]
          clear hx
          go_wp2_with fail
          go_quiet (fail)
          go_wp2
          go_roundw
          case rel => exact ⟨k + 1, by omega, by go_num, hd.next _, take_more hlt (by omega) hm.out Hx.out⟩
          case measure => simp [intOf]; omega
        · have Hx := keepBack hx
          have hq : (l[k] != m[k]) = true := by simp [hx]
          clear hx
          go_wp2_with fail
          go_quiet (fail)
          go_wp2
          go_ret
          refine ⟨ret_no fun e => ?_, hd.next _⟩
          subst e
          exact Hx.out rfl
      · go_wp2
        go_ret
        exact ⟨ret_yes (take_all hlt hl1 hl2 hm.out), hd⟩
  · have hne : (((l.length : Nat) : Int) != (m.length : Int)) = true := by simp; omega
    go_enter Try.func18, Try.ntmps18
    go_wp2
    go_ret
    exact ⟨ret_no fun e => he (by rw [e]), .refl _⟩
theorem sameInts_of {c : Bool} (v u : Value) (l m : List Int) (S S' : Blk) (w : World) (h : Sl tInt w S v l) (g : Sl tInt w S' u m) (hc : decide (l = m) = c) :
    Calls Try.prog 18 #[v, u] w (Quiet w (.bool c)) := hc ▸ sameInts v u l m S S' w h g


theorem intsLit (w : World) (l : List Int) (hok : (l.all fun r => decide (-1000000 ≤ r ∧ r ≤ 1000000)) = true) (hl : l.length ≤ 1000) :
    Sl tInt (w.alloc (.cells ((l.map fun x => [Value.int .i64 x]).flatten).toArray 3)) (fun k => w.heap.size ≤ k) (.slice (some ⟨w.heap.size, 0, none⟩) l.length l.length) l := by
  have hE : Each tInt w (fun _ => False) (l.map fun x => [Value.int .i64 x]) l := by
    refine ⟨by simp, fun i cs r h1 h2 => ?_⟩
    rw [List.getElem?_map, h2] at h1
    obtain rfl := Option.some.inj h1
    have := List.all_eq_true.1 hok r (List.mem_of_getElem? h2)
    simp only [decide_eq_true_eq] at this
    exact ⟨rfl, ok_small this⟩
  exact (Own.lit (E := tInt) (e := 3) (B := w.heap.size) hE rfl (by unfold maxLen; omega) (Nat.le_refl _)).sl (fun _ h => h.elim) (fun _ h => h)
theorem threeMerge_is {r : List Row × List Int × Int} (v0 v1 v2 : Value) (a b c : List Row) (S0 S1 S2 : Blk) (w : World) (h0 : Sl tRow w S0 v0 a) (h1 : Sl tRow w S1 v1 b) (h2 : Sl tRow w S2 v2 c) (hr : mergeP a b c = r) :
    Calls Try.prog 14 #[v0, v1, v2] w (Ret w fun q w' => ∃ x y, q = .tuple #[x, y, .int .i64 r.2.2] ∧ Sl tRow w' (fun k => w.heap.size ≤ k) x r.1 ∧ Sl tInt w' (fun k => w.heap.size ≤ k) y r.2.1) :=
  hr ▸ threeMerge v0 v1 v2 a b c (fun _ => True) w (h0.any) (h1.any) (h2.any)

def mrgA : List Row := [(2, 6), (7, 0), (9, 31)]
def mrgB : List Row := [(2, 5), (8, 1), (9, 32)]
set_option maxHeartbeats 4000000 in
theorem threeBegun (w : World) : Calls Try.prog 16 #[] w (Ret w fun r _ => r = .bool true) := by
  have hA0 := rowsLit w mrgA (by decide) (by decide)
  obtain ⟨wa, hwa⟩ : ∃ wa, wa = w.alloc (Obj.cells #[.int .i64 2, .int .i64 6, .int .i64 7, .int .i64 0, .int .i64 9, .int .i64 31] 64) := ⟨_, rfl⟩
  have hA1 : Sl tRow wa (fun k => w.heap.size ≤ k) (.slice (some ⟨w.heap.size, 0, none⟩) 3 3) mrgA := hwa ▸ hA0
  have hsa : wa.heap.size = w.heap.size + 1 := by rw [hwa]; simp
  have hB0 := rowsLit wa mrgB (by decide) (by decide)
  obtain ⟨wb, hwb⟩ : ∃ wb, wb = wa.alloc (Obj.cells #[.int .i64 2, .int .i64 5, .int .i64 8, .int .i64 1, .int .i64 9, .int .i64 32] 64) := ⟨_, rfl⟩
  have hB1 : Sl tRow wb (fun k => w.heap.size ≤ k) (.slice (some ⟨w.heap.size + 1, 0, none⟩) 3 3) mrgB := by
    rw [← hsa, hwb]
    exact Sl.mono hB0 fun k hk _ => by have : wa.heap.size ≤ k := hk; omega
  have bA : Below w.heap.size w wa := by rw [hwa]; exact (Below.refl _ _).alloc (Nat.le_refl _) _
  have bAB : Below wa.heap.size wa wb := by rw [hwb]; exact (Below.refl _ _).alloc (Nat.le_refl _) _
  have hA2 := hA1.call bAB
  have b0 := bA.trans (bAB.mono bA.size)
  have s0 := b0.size
  clear hA0 hB0 hA1
  go_enter Try.func16, Try.ntmps16
  go_wp2_with fail
  rw [← hwa, ← hwb]
  refine (lawFew _).mono ?_; rintro e w1 ⟨v1, rfl, h1, b1⟩
  have hA3 := hA2.call b1
  have hB3 := hB1.call b1
  have b01 := b0.trans (b1.mono s0)
  have s1 := b01.size
  clear hwa hwb
  go_wp2_with fail
  refine (threeMerge_is v1 _ _ fewL mrgA mrgB _ _ _ w1 h1 hA3 hB3 (r := ([(2, 6), (8, 1), (9, 31)], [9], 0)) (by decide)).mono ?_; rintro e w2 ⟨_, rfl, ⟨x2, y2, rfl, hx2, hy2⟩, b2⟩
  have hA4 := hA3.call b2
  have b02 := b01.trans (b2.mono s1)
  have s2 := b02.size
  go_wp2_with fail
  refine (lawFew _).mono ?_; rintro e w3 ⟨v3, rfl, h3, b3⟩
  have hA5 := hA4.call b3
  have b03 := b02.trans (b3.mono s2)
  have s3 := b03.size
  have hx3 := hx2.call b3
  have hy3 := hy2.call b3
  clear hA2 hA3 hB3 hB1 hA4 hx2 hy2 h1
  go_wp2_with fail
  refine (threeMerge_is v3 _ _ fewL mrgA mrgA _ _ _ w3 h3 hA5 hA5 (r := (mrgA, [], 0)) (by decide)).mono ?_; rintro e w4 ⟨_, rfl, ⟨x4, y4, rfl, hx4, hy4⟩, b4⟩
  have hA6 := hA5.call b4
  have b04 := b03.trans (b4.mono s3)
  have s4 := b04.size
  have hx34 := hx3.call b4
  have hy34 := hy3.call b4
  obtain ⟨ay, cy, rfl, _, _, _⟩ := hy4.shapeAt 0 rfl
  go_wp2_with fail
  refine (lawFew _).mono ?_; rintro e w5 ⟨v5, rfl, h5, b5⟩
  have hA7 := hA6.call b5
  have b05 := b04.trans (b5.mono s4)
  have s5 := b05.size
  have hx35 := hx34.call b5
  have hy35 := hy34.call b5
  have hx45 := hx4.call b5
  clear hA5 hA6 hx3 hy3 hx34 hy34 hx4 hy4 h3
  go_wp2_with fail
  have bC : Below w5.heap.size w5 (w5.alloc (Obj.cells #[.int .i64 (-1), .int .i64 0] 64)) := (Below.refl _ _).alloc (Nat.le_refl _) _
  refine (threeMerge_is v5 _ _ fewL mrgA [(-1, 0)] _ _ _ _ (h5.call bC) (hA7.call bC) (rowsLit w5 [(-1, 0)] (by decide) (by decide)) (r := ([], [], 1)) (by decide)).mono ?_; rintro e w6 ⟨_, rfl, ⟨x6, y6, rfl, _, _⟩, b6⟩
  have b56 := bC.trans (b6.mono bC.size)
  have hA8 := hA7.call b56
  have b06 := b05.trans (b56.mono s5)
  have s6 := b06.size
  have hx36 := hx35.call b56
  have hy36 := hy35.call b56
  have hx46 := hx45.call b56
  clear hA7 hx35 hy35 hx45 h5
  go_wp2_with fail
  have bD : Below w6.heap.size w6 (w6.alloc (Obj.cells #[.int .i64 9] 3)) := (Below.refl _ _).alloc (Nat.le_refl _) _
  refine (sameInts_of y2 _ [9] [9] _ _ _ (hy36.call bD) (intsLit w6 [9] (by decide) (by decide)) (c := true) (by decide)).mono ?_; rintro e w7 ⟨rfl, d7⟩
  have b67 := bD.trans (d7.below.mono bD.size)
  have hA9 := hA8.call b67
  have b07 := b06.trans (b67.mono s6)
  have s7 := b07.size
  have hx37 := hx36.call b67
  have hx47 := hx46.call b67
  go_wp2_with fail
  have bE : Below w7.heap.size w7 (w7.alloc (Obj.cells #[.int .i64 2, .int .i64 6, .int .i64 8, .int .i64 1, .int .i64 9, .int .i64 31] 64)) := (Below.refl _ _).alloc (Nat.le_refl _) _
  refine (refSameRows_of x2 _ [(2, 6), (8, 1), (9, 31)] [(2, 6), (8, 1), (9, 31)] _ _ _ (hx37.call bE) (rowsLit w7 [(2, 6), (8, 1), (9, 31)] (by decide) (by decide)) (c := true) (by decide)).mono ?_; rintro e w8 ⟨rfl, d8⟩
  have b78 := bE.trans (d8.below.mono bE.size)
  have b08 := b07.trans (b78.mono s7)
  have s8 := b08.size
  go_wp2_with fail
  refine (refSameRows_of x4 _ mrgA mrgA _ _ w8 (hx47.call b78) (hA9.call b78) (c := true) (by decide)).mono ?_; rintro e w9 ⟨rfl, d9⟩
  go_wp2
  go_ret
  exact ⟨_, rfl, rfl, b08.trans (d9.below.mono s8)⟩

end Go.Pch

namespace Go.Pch
open Go.RowKit Go.Proofs
set_option maxRecDepth 100000

theorem lawThreeMerges (v0 : Value) (a : List Row) (v1 : Value) (b : List Row) (v2 : Value) (c : List Row) (w : World) (h0 : Sl tRow w (fun _ => True) v0 a) (h1 : Sl tRow w (fun _ => True) v1 b) (h2 : Sl tRow w (fun _ => True) v2 c) :
    Calls Try.prog 3 #[v0, v1, v2] w (Ret w fun r _ => r = .bool true) := by
  go_enter Try.func3, Try.ntmps3
  go_wp2_with fail
  refine (threeMerge v0 v1 v2 a b c _ w h0 h1 h2).mono ?_; rintro e w1 ⟨_, rfl, ⟨x1, y1, rfl, hx1, hy1⟩, b1⟩
  have s1 := b1.size
  go_wp2_with fail
  refine (refMergeOf v0 v1 v2 a b c _ w1 (h0.call b1) (h1.call b1) (h2.call b1)).mono ?_; rintro e w2 ⟨_, rfl, ⟨x2, y2, rfl, hx2, hy2⟩, b2⟩
  have b02 := b1.trans (b2.mono s1)
  have s2 := b02.size
  have hx12 := hx1.call b2
  have hy12 := hy1.call b2
  generalize mergeP a b c = p at *
  go_wp2_with fail
  refine (threeBegun w2).mono ?_; rintro e w3 ⟨_, rfl, rfl, b3⟩
  have b03 := b02.trans (b3.mono s2)
  have s3 := b03.size
  go_wp2_with fail
  refine (refSameRows_of (c := true) x1 x2 _ _ _ _ w3 (hx12.call b3) (hx2.call b3) (by simp)).mono ?_; rintro e w4 ⟨rfl, d4⟩
  have b4 := d4.below
  have b04 := b03.trans (b4.mono s3)
  have s4 := b04.size
  go_wp2_with fail
  refine (sameInts_of (c := true) y1 y2 _ _ _ _ w4 ((hy12.call b3).call b4) ((hy2.call b3).call b4) (by simp)).mono ?_; rintro e w5 ⟨rfl, d5⟩
  go_wp2
  go_ret
  exact ⟨_, rfl, rfl, b04.trans (d5.below.mono s4)⟩

set_option maxHeartbeats 4000000 in
theorem lawThreePatch (v0 : Value) (base : List Row) (v1 : Value) (a : List Row) (v2 : Value) (b : List Row) (w : World) (h0 : Sl tRow w (fun _ => True) v0 base) (h1 : Sl tRow w (fun _ => True) v1 a) (h2 : Sl tRow w (fun _ => True) v2 b) :
    Calls Try.prog 5 #[v0, v1, v2] w (Ret w fun r _ => r = .bool true) := by
  by_cases hz : (mergeP base a b).2.2 = 0
  · obtain ⟨he, hlen, hP⟩ := merge_inv hz
    by_cases hc : clashL base a b = []
    · have HL := keepBack (left_patch ⟨he, hlen⟩ hc)
      have HFA := keepBack (fun (k : Int) (h0 : 0 ≤ k) (h1 : k ≤ 99) => find_ok (l := a) he.2.1 h0 h1)
      have HFC := keepBack (fineC_all (diffL_fine (valueOf_bounds (ok_rise he.1).2) (valueOf_bounds (ok_rise he.2.2).2)))
      have HDL := fineC_len (diffL_fine (valueOf_bounds (ok_rise he.1).2) (valueOf_bounds (ok_rise he.2.2).2)) (by omega)
      rw [hc] at hP
      go_enter Try.func5, Try.ntmps5
      go_wp2_with fail
      refine (threeMerge_is v0 v1 v2 base a b _ _ _ w h0 h1 h2 hP).mono ?_; rintro e w1 ⟨_, rfl, ⟨x1, y1, rfl, hx1, hy1⟩, b1⟩
      have s1 := b1.size
      obtain ⟨ay, cy, rfl, _, _, _⟩ := hy1.shapeAt 0 rfl
      go_wp2_with fail
      refine (treeBuildOk v0 _ w1 (h0.call b1) he.1).mono ?_; rintro e w2 ⟨_, rfl, ⟨x2, rfl, hx2⟩, b2⟩
      have b02 := b1.trans (b2.mono s1)
      have s2 := b02.size
      go_wp2_with fail
      refine (treeBuildOk v2 _ w2 (h2.call b02) he.2.2).mono ?_; rintro e w3 ⟨_, rfl, ⟨x3, rfl, hx3⟩, b3⟩
      have b03 := b02.trans (b3.mono s2)
      have s3 := b03.size
      have hx13 := (hx1.call b2).call b3
      have hx23 := hx2.call b3
      go_wp2_with fail
      refine (diffOf_is x2 x3 _ _ _ _ w3 hx23 hx3 (small_tree he.1) (small_tree he.2.2) (diff_trees he.1 he.2.2)).mono ?_; rintro e w4 ⟨_, rfl, ⟨x4, rfl, hx4⟩, b4⟩
      have b04 := b03.trans (b4.mono s3)
      have s4 := b04.size
      have hx14 := hx13.call b4
      have HLL : Hid (leftL base a b = (diffL (valueOf base) (valueOf b)).filter fun c => !decide (valueOf a c.1 = c.2.2)) := keepBack rfl
      clear hz hc hP he hx1 hx2 hx3 hx13 hx23
      generalize diffL (valueOf base) (valueOf b) = D at *
      have hd4 := hx4
      obtain ⟨ad, cd, rfl, hcd, hmd, _⟩ := hx4.shape
      unfold maxLen at hmd
      go_wp2_with fail
      go_loopw [16, 17] (fun left i wr => ∃ (k : Nat), k ≤ D.length ∧ i = .int .i64 k ∧ Below w4.heap.size w4 wr ∧ Own tChange 42 wr w4.heap.size (fun _ => False) left ((D.take k).filter fun c => !decide (valueOf a c.1 = c.2.2))) (fun _ i _ => D.length - (intOf i).toNat)
      case atStart => exact ⟨0, Nat.zero_le _, rfl, Below.refl _ _, .nil⟩
      case round =>
        obtain ⟨k, hk, rfl, hbr, ho⟩ := hrel
        have hsr := hbr.size
        have hbw := b04.trans (hbr.mono s4)
        have hsw := hbw.size
        by_cases hlt : k < D.length
        · obtain ⟨p, o, hix, _, hbs, ok1, ok2, ok3, hc0, hc1, hc2⟩ := (hd4.call hbr).idxChg aChg k k rfl hlt
          have hb := HFC.out D[k] (List.getElem_mem hlt)
          have HF := keepBack (HFA.out D[k].1 (by omega) hb.2.1)
          have HN := keepBack (show (D.take (k + 1)).filter (fun c => !decide (valueOf a c.1 = c.2.2)) = (D.take k).filter (fun c => !decide (valueOf a c.1 = c.2.2)) ++ (if (!decide (valueOf a D[k].1 = D[k].2.2)) = true then [D[k]] else []) by
            rw [List.take_succ_eq_append_getElem hlt, List.filter_append, List.filter_cons]
            split <;> rfl)
          have hll : ((D.take k).filter (fun c => !decide (valueOf a c.1 = c.2.2))).length ≤ 1000 := by
            have h1 := List.length_filter_le (fun c : Change => !decide (valueOf a c.1 = c.2.2)) (D.take k)
            rw [List.length_take] at h1
            omega
          generalize (D.take k).filter (fun c => !decide (valueOf a c.1 = c.2.2)) = G at *
          generalize D[k] = x at *
          clear hb
          go_wp2_with fail
          refine (rowsFindIs v1 a x.1 _ wr (h1.call hbw) HF.out).mono ?_; rintro e w5 ⟨_, rfl, rfl, b5⟩
          have hc0' := (b5.cell (p := ⟨p, o, none⟩) hbs).trans hc0
          have hc1' := (b5.cell (p := ⟨p, o + 1, none⟩) hbs).trans hc1
          have hc2' := (b5.cell (p := ⟨p, o + 2, none⟩) hbs).trans hc2
          have hb5 := hbr.trans (b5.mono hsr)
          have hs5 := hb5.size
          have ho5 := ho.call b5
          clear hc0 hc1 hc2
          by_cases hv : valueOf a x.1 = x.2.2
          · have hq : (valueOf a x.1 != x.2.2) = false := by simp [hv]
            have HD : Hid ((!decide (valueOf a x.1 = x.2.2)) = false) := keepBack (by simp [hv])
            clear hv
            generalize valueOf a x.1 = y at *
            go_wp2
            go_roundw
            case rel => exact ⟨k + 1, by omega, by go_num, hb5, by rw [HN.out, HD.out, if_neg (by simp), List.append_nil]; exact ho5⟩
            case measure => simp [intOf]; omega
          · have hq : (valueOf a x.1 != x.2.2) = true := by simp [hv]
            have HD : Hid ((!decide (valueOf a x.1 = x.2.2)) = true) := keepBack (by simp [hv])
            clear hv
            generalize valueOf a x.1 = y at *
            obtain ⟨ag, cg, rfl, _, _⟩ := ho5.shape
            have HB : G.length + [x].length ≤ 1000000000000 := by simp; omega
            go_wp2_with (first
              | (at_builtin; refine wpList_grow rfl (.tmp 87) (.tmp 92) rfl aChg rfl (ho5.alloc _) rfl rfl (Src.one (cs := [_, _, _]) (tChange_mk w5 (fun _ => False) x.1 x.2.1 x.2.2 ok1 ok2 ok3) _) nofun (fun _ h => h.elim) HB (Nat.le_trans hs5 (Nat.le_of_lt (World.size_lt_alloc _ _))) ?_; intro v6 w6 ho6 hg6)
              | fail)
            have hb6 : Below w4.heap.size w4 w6 := (hb5.alloc hs5 _).grown hg6 (Nat.le_trans hs5 (Nat.le_of_lt (World.size_lt_alloc _ _))) (fun g hg => (ho5.block g hg).1)
            go_wp2
            go_roundw
            case rel => exact ⟨k + 1, by omega, by go_num, hb6, by rw [HN.out, HD.out, if_pos rfl]; exact ho6⟩
            case measure => simp [intOf]; omega
        · have HE := keepBack (show D.take k = D from List.take_of_length_le (by omega))
          rw [HE.out, ← HLL.out] at ho
          have hsl := ho.sl (D := fun _ => True) (fun _ h => h.elim) (fun _ _ => trivial)
          go_wp2_with fail
          refine (diffPatch_is v1 _ a (leftL base a b) _ _ wr (h1.call hbw) hsl HL.out).mono ?_; rintro e w5 ⟨_, rfl, ⟨x5, rfl, hx5⟩, b5⟩
          have b05 := hbw.trans (b5.mono hsw)
          have s5 := b05.size
          have hx15 := (hx14.call hbr).call b5
          go_wp2_with fail
          refine (threeBegun w5).mono ?_; rintro e w6 ⟨_, rfl, rfl, b6⟩
          have b06 := b05.trans (b6.mono s5)
          have s6 := b06.size
          go_wp2_with fail
          refine (refSameRows_of (c := true) x5 x1 _ _ _ _ w6 (hx5.call b6) (hx15.call b6) (by simp)).mono ?_; rintro e w7 ⟨rfl, d7⟩
          go_wp2
          go_ret
          exact ⟨_, rfl, rfl, b06.trans (d7.below.mono s6)⟩
    · have hpos := List.length_pos_iff.2 hc
      have hcl : (clashL base a b).length ≤ 100 := clash_len _ _ _ 100 0
      clear hc
      generalize clashL base a b = C at *
      go_enter Try.func5, Try.ntmps5
      go_wp2_with fail
      refine (threeMerge_is v0 v1 v2 base a b _ _ _ w h0 h1 h2 hP).mono ?_; rintro e w1 ⟨_, rfl, ⟨x1, y1, rfl, hx1, hy1⟩, b1⟩
      have s1 := b1.size
      obtain ⟨ay, cy, rfl, _, _, _⟩ := hy1.shape
      go_wp2_with fail
      refine (treeBuildOk v0 _ w1 (h0.call b1) he.1).mono ?_; rintro e w2 ⟨_, rfl, ⟨x2, rfl, hx2⟩, b2⟩
      have b02 := b1.trans (b2.mono s1)
      have s2 := b02.size
      go_wp2_with fail
      refine (treeBuildOk v2 _ w2 (h2.call b02) he.2.2).mono ?_; rintro e w3 ⟨_, rfl, ⟨x3, rfl, hx3⟩, b3⟩
      have b03 := b02.trans (b3.mono s2)
      have s3 := b03.size
      go_wp2_with fail
      refine (threeBegun w3).mono ?_; rintro e w4 ⟨_, rfl, rfl, b4⟩
      go_wp2
      go_ret
      exact ⟨_, rfl, rfl, b03.trans (b4.mono s3)⟩
  · have hq : ((mergeP base a b).2.2 != 0) = true := by simpa using hz
    clear hz
    go_enter Try.func5, Try.ntmps5
    go_wp2_with fail
    refine (threeMerge v0 v1 v2 base a b _ w h0 h1 h2).mono ?_; rintro e w1 ⟨_, rfl, ⟨x1, y1, rfl, hx1, hy1⟩, b1⟩
    have s1 := b1.size
    generalize mergeP base a b = p at *
    go_wp2_with fail
    refine (treeBuild v0 _ _ w1 (h0.call b1)).mono ?_; rintro e w2 ⟨_, rfl, ⟨x2, rfl, hx2⟩, b2⟩
    have b02 := b1.trans (b2.mono s1)
    have s2 := b02.size
    generalize buildP base = q at *
    go_wp2_with fail
    refine (treeBuild v2 _ _ w2 (h2.call b02)).mono ?_; rintro e w3 ⟨_, rfl, ⟨x3, rfl, hx3⟩, b3⟩
    have b03 := b02.trans (b3.mono s2)
    have s3 := b03.size
    generalize buildP b = q2 at *
    clear hx1 hy1 hx2 hx3
    go_wp2_with fail
    refine (threeBegun w3).mono ?_; rintro e w4 ⟨_, rfl, rfl, b4⟩
    go_wp2
    go_ret
    exact ⟨_, rfl, rfl, b03.trans (b4.mono s3)⟩

end Go.Pch
