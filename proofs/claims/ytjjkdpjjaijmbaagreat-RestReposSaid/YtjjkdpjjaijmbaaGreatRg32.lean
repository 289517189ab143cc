/- The walks of log.List (written by wip/gen_list.py). -/
import Derived.Test.YtjjkdpjjaijmbaaGreatRg31
section
namespace Go.Pch
open Go.RowKit Go.Proofs
set_option maxRecDepth 100000

/-- What is read, as a slice's element. -/
def VElInt (_ : World) (a : Int) (v : Value) (_ : World) : Prop := v = .int .i64 a ∧ i64ok a
def VElRow (_ : World) (a : Row) (v : Value) (_ : World) : Prop := v = .agg #[.int .i64 a.1, .int .i64 a.2] ∧ i64ok a.1 ∧ i64ok a.2
def VElHead (_ : World) (a : Head) (v : Value) (_ : World) : Prop := v = .agg #[.string a.1, .int .i64 a.2] ∧ i64ok a.2 ∧ a.1.size ≤ maxLen
def VElCom (W : World) (a : Commit) (v : Value) (w' : World) : Prop := ∃ x y, v = .agg #[x, y] ∧ Sl tRow w' (fun k => W.heap.size ≤ k) x a.1 ∧ Sl tInt w' (fun k => W.heap.size ≤ k) y a.2
/-- A slice that is read. -/
def VSl {α : Type} (E : Ty α) (W : World) (l : List α) (v : Value) (w' : World) : Prop := Sl E w' (fun k => W.heap.size ≤ k) v l
theorem listG_none {α : Type} {p : Bytes → Option (α × Bytes)} {s : Bytes} (h : num1 s = none) : listG p s = none := by rw [listG, h]; rfl
theorem listG_some {α : Type} {p : Bytes → Option (α × Bytes)} {s t : Bytes} {n : Nat} (h : num1 s = some ((n : Int), t)) : listG p s = repG p n t := by rw [listG, h]; rfl
theorem repG_no {α : Type} {p : Bytes → Option (α × Bytes)} {s : Bytes} {n : Nat} (h : p s = none) : repG p (n + 1) s = none := by rw [repG, h]; rfl
theorem repG_ok {α : Type} {p : Bytes → Option (α × Bytes)} {s t : Bytes} {n : Nat} {a : α} (h : p s = some (a, t)) : repG p (n + 1) s = (repG p n t).map fun y => (a :: y.1, y.2) := by rw [repG, h]; rfl





end Go.Pch
end
