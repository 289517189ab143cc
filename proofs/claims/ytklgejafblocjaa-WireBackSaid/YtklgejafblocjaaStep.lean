/- append, as a law for go_region_held3 (a region that draws its order). -/
import Derived.Test.YtklgejafblocjaaOwn
import Derived.Deep.RegionHeld3
import Derived.Deep.AppendLies
namespace Go.Pch
open Go.RowKit

theorem step_grow {P : Program} {α : Type} {E : Ty α} {e T : TypeId} {w : World} {B : Nat} {C D : Blk} {v : Value} {l m : List α} {ops : Array Oper} {o : Oper} {a : Act} {K : Act → World → Prop} {Q : Exit → Act → World → Prop} {Ex : Prop} (hgd : o.guard = none) (s x : Operand)
    (ho : o.op = .call { callee := .builtin .append, args := #[s, x], argTypes := #[T, T] }) (hA : At P E T e) (hs : a.eval s = v) (h : Own E e w B C v l) {ao : Option Addr} {c n : Nat} (hx : a.eval x = .slice ao n c) (hnm : n = m.length) (hsrc : Src E w D ao m) (hc : ao = none → c = 0)
    (hD : ∀ k, D k → k < w.heap.size → C k ∧ some k ≠ v.ownBlock) (hn : l.length + m.length ≤ 1000000000000) (hB : B ≤ w.heap.size)
    (hK : ∀ v' w', Own E e w' B C v' (l ++ m) → w.grownBy w' v.ownBlock → K (a.put o.dst v') w') : if Region.wanted o (yielded ops a.tmps) = true then Oper.wp P o a w K Q else Ex := by
  have hw : Region.wanted o (yielded ops a.tmps) = true := by simp [Region.wanted, hgd]
  rw [if_pos hw]
  subst hnm
  obtain ⟨v', w', hrun, h1, h2, _⟩ := h.run hA hsrc hc o.type hD hn hB
  unfold Oper.wp
  simp [execOp, ho, resolve, invoke, builtin, hs, hx, hrun, Result.andThen]
  exact hK v' w' h1 h2

end Go.Pch
