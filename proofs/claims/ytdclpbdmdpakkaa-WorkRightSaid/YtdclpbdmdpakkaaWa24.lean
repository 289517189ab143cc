/- The walks on bases: what the document says of them; dag.Bases. -/
import Derived.Test.YtdclpbdmdpakkaaWa23
section
namespace Go.Pch
open Go.RowKit Go.Proofs

def basesP (l : List Commit) (a b : Int) : List Int × Int := if thereAll l [a, b] = 0 then (basesL l a.toNat b.toNat, 0) else ([], thereAll l [a, b])
theorem thereAll_two (l : List Commit) (a b : Int) : thereAll l [a, b] = if thereErr l a ≠ 0 then thereErr l a else thereErr l b := by
  unfold thereAll thereErr
  by_cases h : commitsErr l = 0
  · have e : ∀ n : Int, inB l.length n = (decide (0 ≤ n) && decide (n < l.length)) := fun n => by rw [Bool.eq_iff_iff]; simp [inB]; omega
    simp only [h, ne_eq, not_true_eq_false, if_false, List.all_cons, List.all_nil, Bool.and_true, e]
    cases (decide (0 ≤ a) && decide (a < (l.length : Int))) <;> cases (decide (0 ≤ b) && decide (b < (l.length : Int))) <;> simp
  · simp [h]


/-- A base so far: looked at up to i. -/
def isB (l : List Commit) (a b k i : Nat) : Bool := ab l a k && ab l b k && !((List.range i).any fun j => decide (k < j) && (ab l a j && ab l b j) && ab l j k)
theorem isB_begin (l : List Commit) (a b k : Nat) : isB l a b k (k + 1) = (ab l a k && ab l b k) := by
  have : ((List.range (k + 1)).any fun j => decide (k < j) && (ab l a j && ab l b j) && ab l j k) = false := by
    rw [List.any_eq_false]
    intro j hj
    have : ¬ k < j := by simp at hj; omega
    simp [this]
  rw [isB, this]; simp
theorem isB_next (l : List Commit) (a b k i : Nat) (h : k < i) : isB l a b k (i + 1) = (isB l a b k i && !((ab l a i && ab l b i) && ab l i k)) := by
  rw [isB, List.range_succ, List.any_append, isB]
  simp [h, Bool.not_or, Bool.and_assoc]
theorem isB_end (l : List Commit) (a b k : Nat) : isB l a b k l.length = baseB l a b k := rfl


end Go.Pch
end
