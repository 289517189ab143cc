/- The walk of wire.Write. append, as a law for go_region_held3 (a region that draws its order). -/
import Derived.Test.YtjjkdpjjaijmbaaGreatRg5
import Derived.Test.YtjjkdpjjaijmbaaGreatRg7
import Derived.Test.YtjjkdpjjaijmbaaGreatRg2
import Derived.Deep.RegionHeld3
import Derived.Deep.AppendLies
section
namespace Go.Pch
open Go.RowKit Go.Proofs
set_option maxRecDepth 100000

/-- L1: the bytes of a row, of a commit, of a head, of a repo. -/
def rowBy (x : Row) : Bytes := enc1 x.1 ++ enc2 x.2
def comBy (c : Commit) : Bytes := enc1 c.1.length ++ c.1.flatMap rowBy ++ enc1 c.2.length ++ c.2.flatMap enc1
def headBy (h : Head) : Bytes := enc1 h.1.size ++ h.1.data.toList ++ enc1 h.2
def repoBy (r : Repo) : Bytes := enc1 r.1.length ++ r.1.flatMap comBy ++ enc1 r.2.length ++ r.2.flatMap headBy
theorem len_e1 (n : Int) : (enc1 n).length = 1 := rfl
theorem len_e2 (n : Int) : (enc2 n).length = 2 := rfl
theorem len_rows (l : List Row) : (l.flatMap rowBy).length = 3 * l.length := by
  induction l with
  | nil => rfl
  | cons a l ih => rw [List.flatMap_cons, List.length_append, ih]; simp [rowBy, enc1, enc2]; omega
theorem len_com (c : Commit) : (comBy c).length = 2 + 3 * c.1.length + c.2.length := by
  simp only [comBy, List.length_append, len_rows, len_enc1]; simp [enc1]; omega
theorem len_coms {l : List Commit} (h : ∀ c ∈ l, c.1.length ≤ 40 ∧ c.2.length ≤ 2) : (l.flatMap comBy).length ≤ 124 * l.length := by
  induction l with
  | nil => simp
  | cons a l ih =>
    have h0 := h a (by simp)
    have := ih fun c hc => h c (by simp [hc])
    rw [List.flatMap_cons, List.length_append, len_com, List.length_cons]
    omega
theorem len_heads {l : List Head} (h : ∀ c ∈ l, c.1.size ≤ 8) : (l.flatMap headBy).length ≤ 10 * l.length := by
  induction l with
  | nil => simp
  | cons a l ih =>
    have h0 := h a (by simp)
    have := ih fun c hc => h c (by simp [hc])
    have e : a.1.data.toList.length = a.1.size := Array.length_toList
    rw [List.flatMap_cons, List.length_append, List.length_cons]
    simp only [headBy, enc1, List.length_append, List.length_cons, List.length_nil, e]
    omega
/-- What a right repo is like. -/
theorem repo_small {r : Repo} (h : repoErr r = 0) : r.1.length ≤ 14 ∧ (∀ c ∈ r.1, c.1.length ≤ 40 ∧ c.2.length ≤ 2) ∧ r.2.length ≤ 4 ∧ ∀ x ∈ r.2, x.1.size ≤ 8 := by
  obtain ⟨h1, h2, h3, _⟩ := repo_ok h
  obtain ⟨g1, g2⟩ := dag_ok h1
  refine ⟨g1, fun c hc => ?_, h2, fun x hx => ?_⟩
  · obtain ⟨n, hn⟩ := List.mem_iff_getElem?.1 hc
    have := g2 n c hn
    exact ⟨(ok_rise this.1).1, this.2.1⟩
  · rw [List.any_eq_false] at h3
    have := h3 x hx
    simp only [Bool.not_eq_true, Bool.not_eq_false', nameB, Bool.and_eq_true, decide_eq_true_eq] at this
    exact this.1.2
/-- L1: Write's answer. -/
def writeP (r : Repo) : Bytes × Int := if repoErr r = 0 then (repoBy r, 0) else ([], repoErr r)


end Go.Pch
end

section
namespace Go.Pch
open Go.RowKit

theorem step_grow {P : Program} {α : Type} {E : Ty α} {e T : TypeId} {w : World} {B : Nat} {C D : Blk} {v : Value} {l m : List α} {ops : Array Oper} {o : Oper} {a : Go.Act} {K : Go.Act → World → Prop} {Q : Exit → Go.Act → World → Prop} {Ex : Prop} (hgd : o.guard = none) (s x : Operand)
    (ho : o.op = .call { callee := .builtin .append, args := #[s, x], argTypes := #[T, T] }) (hA : At P E T e) (hs : a.eval s = v) (h : Own E e w B C v l) {ao : Option Addr} {c n : Nat} (hx : a.eval x = .slice ao n c) (hnm : n = m.length) (hsrc : Src E w D ao m) (hc : ao = none → c = 0)
    (hD : ∀ k, D k → k < w.heap.size → C k ∧ some k ≠ v.ownBlock) (hn : l.length + m.length ≤ 1000000000000) (hB : B ≤ w.heap.size)
    (hK : ∀ v' w', Own E e w' B C v' (l ++ m) → w.grownBy w' v.ownBlock → K (a.put o.dst v') w') : if Region.wanted o (yielded ops a.tmps) = true then Oper.wp P o a w K Q else Ex := by
  have hw : Region.wanted o (yielded ops a.tmps) = true := by simp [Region.wanted, hgd]
  rw [if_pos hw]
  subst hnm
  obtain ⟨v', w', hrun, h1, h2, _⟩ := h.run hA hsrc hc o.type hD hn hB
  unfold Oper.wp
  simp [execOp, ho, resolve, invoke, builtin, hs, hx, hrun, Result.andThen]
  exact hK v' w' h1 h2

end Go.Pch
end
