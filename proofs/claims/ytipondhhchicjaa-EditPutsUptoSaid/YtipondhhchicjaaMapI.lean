/- A map of ints that the call has made: what it says, read, written. -/
import Derived.Test.YtipondhhchicjaaC1
import Derived.Maps.OwnSet
import Derived.Maps.Views
namespace Go.Pch
open Go.RowKit Go.Proofs Go.Maps

theorem intKeyed : Keyed Try.prog 3 := int_keyed Try.underlying3
theorem intZero (w : World) : (zeroValue 3).run Try.prog w = .ok (.int .i64 0) w := by kernel_rfl
theorem i64wf {n : Int} (h : i64ok n) : (Lit.int .i64 n).wf = true := by
  unfold i64ok at h
  simp only [Lit.wf, IntKind.min, IntKind.max, IntKind.signed, IntKind.bits, Bool.and_eq_true, decide_eq_true_eq, if_true]
  omega
/-- Block b is a map of at most n entries that says f. -/
def MapI (w : World) (b n : Nat) (f : Int → Option Int) : Prop :=
  ∃ D : DataW Unit, w.ownsMap Try.prog 3 (plainElem Try.prog 3) b n D ∧ ∀ k, Maps.has D (.int .i64 k) = (f k).isSome ∧ D.atKey (.int .i64 k) (.lit (.int .i64 0)) = .lit (.int .i64 ((f k).getD 0))
theorem MapI.made (w : World) : MapI (w.alloc (.map #[] 0)) w.heap.size 0 (fun _ => none) :=
  ⟨.map [], World.ownsMap_made _ _ _ _, fun _ => ⟨rfl, rfl⟩⟩
theorem MapI.kept {w w' : World} {b n : Nat} {f : Int → Option Int} {row : Option Nat} (h : MapI w b n f) (hg : w.grownBy w' row) (hne : some b ≠ row) : MapI w' b n f := by
  obtain ⟨D, h1, h2⟩ := h
  exact ⟨D, h1.kept hg hne, h2⟩
theorem MapI.lt {w : World} {b n : Nat} {f : Int → Option Int} (h : MapI w b n f) : b < w.heap.size := by obtain ⟨D, h1, _⟩ := h; exact h1.lt
theorem MapI.keep {w w' : World} {b n : Nat} {f : Int → Option Int} (h : MapI w b n f) (hk : w'.heap[b]? = w.heap[b]?) : MapI w' b n f := by
  obtain ⟨D, ⟨es, clock, hb, r⟩, h2⟩ := h
  exact ⟨D, ⟨es, clock, hk.trans hb, r⟩, h2⟩
theorem MapI.look {w : World} {b n : Nat} {f : Int → Option Int} (h : MapI w b n f) {k : Int} (hk : i64ok k) :
    (Instr.lookup 60 (.map (some b)) (.int .i64 k) false).run Try.prog w = .ok (.int .i64 ((f k).getD 0)) w := by
  obtain ⟨D, h1, h2⟩ := h
  obtain ⟨c, e1, e2, _⟩ := h1.lookup_int intKeyed Try.underlying60 Try.underlying3 (intZero w) (keyOf_int_mk Try.underlying3 (i64wf hk))
  rw [(h2 k).2] at e2
  simp at e2
  rw [e1, e2]
theorem MapI.lookOk {w : World} {b n : Nat} {f : Int → Option Int} (h : MapI w b n f) {k : Int} (hk : i64ok k) :
    (Instr.lookup 60 (.map (some b)) (.int .i64 k) true).run Try.prog w = .ok (.tuple #[.int .i64 ((f k).getD 0), .bool (f k).isSome]) w := by
  obtain ⟨D, h1, h2⟩ := h
  obtain ⟨v, ps, e1, e2⟩ := h1.look_ok intKeyed Try.underlying60 (intZero w) (plainElem_int Try.underlying3 (a := 0) (by decide)) (keyOf_int_mk Try.underlying3 (i64wf hk))
  rw [(h2 k).2] at e2
  obtain ⟨c, rfl, hc, _⟩ := plainElem_int_inv Try.underlying3 e2
  simp at hc
  rw [e1, (h2 k).1, hc.1]
/-- m[k] = v, as a law for the walk. -/
theorem wpList_mapI {w : World} {ops : Array Oper} {rest : List Oper} {o : Oper} {a : Act} {Q : Exit → Act → World → Prop} (hg : o.guard = none) (m x v : Operand) (hop : o.op = Op.mapUpdate 60 m x v)
    {b n : Nat} {f : Int → Option Int} (hm : a.eval m = .map (some b)) (h : MapI w b n f) (hn : n < 1000000000) {k c : Int} (hx : a.eval x = .int .i64 k) (hv : a.eval v = .int .i64 c) (hk : i64ok k) (hc : i64ok c)
    (hK : ∀ w', MapI w' b (n + 1) (fun j => if j = k then some c else f j) → w.grownBy w' (some b) → wpList Try.prog ops Q rest (a.put o.dst undef) w') :
    wpList Try.prog ops Q (o :: rest) a w := by
  obtain ⟨D, h1, h2⟩ := h
  refine wpList_mapUpdate_own w hg m x v 60 hop 3 3 intKeyed Try.underlying60 (plainElem Try.prog 3) b n D hm h1 (by unfold maxLen; omega) _ _ _ hx hv (keyOf_int_mk Try.underlying3 (i64wf hk)) _ [] (plainElem_int Try.underlying3 (i64wf hc)) ?_
  intro w' h3 h4
  refine hK w' ⟨_, h3, fun j => ?_⟩ h4
  by_cases hj : j = k
  · have e : (fun j => if j = k then some c else f j) j = some c := if_pos hj
    rw [e, hj]
    exact ⟨has_put_same h1.isMap (by trivial) _, atKey_put_same h1.isMap (by trivial) _ _⟩
  · have e : (fun j => if j = k then some c else f j) j = f j := if_neg hj
    have hne : Lit.int IntKind.i64 j ≠ Lit.int .i64 k := by simpa using hj
    rw [e]
    exact ⟨(has_put_other hne _).trans (h2 j).1, (atKey_put_other hne _ _).trans (h2 j).2⟩

end Go.Pch
