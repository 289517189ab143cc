/- Plain words of chapter 3: a tree's rows, what is wrong with it, its root; no program is named here. -/
import Derived.Test.YtipondhhchicjaaTreeD
namespace Go.Pch

/-- The rows of level 0, whatever it is. -/
def flatL (t : List (List (List Row))) : List Row := (t.headD []).flatten
/-- C1: what is wrong with a tree. -/
def treeErr (t : List (List (List Row))) : Int := if rowsErr (flatL t) = 0 ∧ treeL (flatL t) = t then 0 else 1
/-- C2: the root of a right tree. -/
def topL (t : List (List (List Row))) : Int := if t = [] then 1 else sumL ((t.getLastD []).headD [])

theorem treeErr_ok {t : List (List (List Row))} (h : treeErr t = 0) : rowsErr (flatL t) = 0 ∧ treeL (flatL t) = t := by
  unfold treeErr at h
  split at h
  · assumption
  · omega
theorem treeErr_of {t : List (List (List Row))} (h1 : rowsErr (flatL t) = 0) (h2 : treeL (flatL t) = t) : treeErr t = 0 := by
  unfold treeErr; rw [if_pos ⟨h1, h2⟩]
theorem treeErr_no {t : List (List (List Row))} (h : ¬ (rowsErr (flatL t) = 0 ∧ treeL (flatL t) = t)) : treeErr t = 1 := by
  unfold treeErr; rw [if_neg h]

theorem treeL_nil : treeL [] = [] := rfl
theorem treeL_cons {l : List Row} (h : l ≠ []) : ∃ more, treeL l = chunks 0 l :: more := by
  by_cases h1 : (chunks 0 l).length = 1
  · exact ⟨[], treeN_top (n := 0) h h1⟩
  · exact ⟨_, treeN_more (n := 0) h h1⟩
theorem flat_tree (l : List Row) : flatL (treeL l) = l := by
  by_cases h : l = []
  · subst h; rfl
  · obtain ⟨m, hm⟩ := treeL_cons h
    rw [hm, flatL, List.headD_cons, chunks_flatten]
/-- A tree is built of its rows. -/
theorem treeErr_tree {l : List Row} (h : rowsErr l = 0) : treeErr (treeL l) = 0 := treeErr_of (by rw [flat_tree]; exact h) (by rw [flat_tree])

theorem fine_chunk {l : List Row} (hf : fineB l = true) (n : Int) : ∀ c ∈ chunks n l, c ≠ [] ∧ fineB c = true := fun c hc => by
  refine ⟨(chunks_mem c hc).1, ?_⟩
  rw [fineB, List.all_eq_true] at hf ⊢
  exact fun r hr => hf r ((chunks_mem c hc).2 r hr)

/-- The last level has one chunk. -/
theorem treeN_last : ∀ (k : Nat) (n : Int) (l : List Row), l.length ≤ k → rowsErr l = 0 → l ≠ [] → ∃ init c, treeN n l = init ++ [[c]] ∧ c ≠ [] ∧ fineB c = true
  | 0, n, l, hk, _, hl => absurd (List.eq_nil_of_length_eq_zero (Nat.le_zero.1 hk)) hl
  | k + 1, n, l, hk, ho, hl => by
    by_cases h1 : (chunks n l).length = 1
    · obtain ⟨c, hc⟩ := List.length_eq_one_iff.1 h1
      refine ⟨[], c, by rw [treeN_top hl h1, hc]; rfl, ?_⟩
      exact fine_chunk (ok_fine ho) n c (by rw [hc]; simp)
    · have h2 := chunks_half n l
      have h3 := chunks_pos (n := n) hl
      obtain ⟨init, c, he, hc⟩ := treeN_last k (n + 1) ((chunks n l).map tell) (by rw [List.length_map]; omega) (told_ok ho n) (by intro e; have := congrArg List.length e; simp at this; simp [this] at h3)
      exact ⟨chunks n l :: init, c, by rw [treeN_more hl h1, he]; rfl, hc⟩
theorem treeL_last {l : List Row} (ho : rowsErr l = 0) (hl : l ≠ []) : ∃ init c, treeL l = init ++ [[c]] ∧ c ≠ [] ∧ fineB c = true := treeN_last _ 0 l (Nat.le_refl _) ho hl

/-- A right tree is none, or has one chunk at its last level. -/
theorem treeErr_last {t : List (List (List Row))} (h : treeErr t = 0) (ht : t ≠ []) : ∃ init c, t = init ++ [[c]] ∧ c ≠ [] ∧ fineB c = true ∧ topL t = sumL c := by
  obtain ⟨h1, h2⟩ := treeErr_ok h
  obtain ⟨init, c, he, h3, h4⟩ := treeL_last h1 (l := flatL t) (by intro e; rw [e, treeL_nil] at h2; exact ht h2.symm)
  rw [h2] at he
  refine ⟨init, c, he, h3, h4, ?_⟩
  rw [topL, if_neg ht, he]
  simp

/-- C2: Rows' and Root's answers. -/
def treeRows (t : List (List (List Row))) : List Row × Int := if treeErr t = 0 then (flatL t, 0) else ([], treeErr t)
def treeRoot (t : List (List (List Row))) : Int × Int := if treeErr t = 0 then (topL t, 0) else (0, treeErr t)

end Go.Pch
