/- The walks of slices.Equal at rows, slices.EqualFunc at levels and trees, tree.same. Plain words of chapter 3: a tree's rows, what is wrong with it, its root; no program is named here. The walks of package tree on whole trees, and of what the document says of them. What the walk of the law RestRepos calls, in the words that it uses. -/
import Derived.Test.YtjjkdpjjaijmbaaGreatRg45
import Derived.Test.YtjjkdpjjaijmbaaGreatRg46
import Derived.Test.YtjjkdpjjaijmbaaGreatRg3
import Derived.Test.YtjjkdpjjaijmbaaGreatRg36
import Derived.Test.YtjjkdpjjaijmbaaGreatRg44
import Derived.Test.YtjjkdpjjaijmbaaGreatRg37
import Derived.Test.YtjjkdpjjaijmbaaGreatRg27
section
namespace Go.Pch
open Go.RowKit Go.Proofs






end Go.Pch
end

section
namespace Go.Pch

/-- The rows of level 0, whatever it is. -/
def flatL (t : List (List (List Row))) : List Row := (t.headD []).flatten
/-- C1: what is wrong with a tree. -/
def treeErr (t : List (List (List Row))) : Int := if rowsErr (flatL t) = 0 ∧ treeL (flatL t) = t then 0 else 1
/-- C2: the root of a right tree. -/
def topL (t : List (List (List Row))) : Int := if t = [] then 1 else sumL ((t.getLastD []).headD [])

theorem treeErr_ok {t : List (List (List Row))} (h : treeErr t = 0) : rowsErr (flatL t) = 0 ∧ treeL (flatL t) = t := by
  unfold treeErr at h
  split at h
  · assumption
  · omega
theorem treeErr_of {t : List (List (List Row))} (h1 : rowsErr (flatL t) = 0) (h2 : treeL (flatL t) = t) : treeErr t = 0 := by
  unfold treeErr; rw [if_pos ⟨h1, h2⟩]
theorem treeErr_no {t : List (List (List Row))} (h : ¬ (rowsErr (flatL t) = 0 ∧ treeL (flatL t) = t)) : treeErr t = 1 := by
  unfold treeErr; rw [if_neg h]

theorem treeL_nil : treeL [] = [] := rfl
theorem treeL_cons {l : List Row} (h : l ≠ []) : ∃ more, treeL l = chunks 0 l :: more := by
  by_cases h1 : (chunks 0 l).length = 1
  · exact ⟨[], treeN_top (n := 0) h h1⟩
  · exact ⟨_, treeN_more (n := 0) h h1⟩
theorem flat_tree (l : List Row) : flatL (treeL l) = l := by
  by_cases h : l = []
  · subst h; rfl
  · obtain ⟨m, hm⟩ := treeL_cons h
    rw [hm, flatL, List.headD_cons, chunks_flatten]
/-- A tree is built of its rows. -/
theorem treeErr_tree {l : List Row} (h : rowsErr l = 0) : treeErr (treeL l) = 0 := treeErr_of (by rw [flat_tree]; exact h) (by rw [flat_tree])

theorem fine_chunk {l : List Row} (hf : fineB l = true) (n : Int) : ∀ c ∈ chunks n l, c ≠ [] ∧ fineB c = true := fun c hc => by
  refine ⟨(chunks_mem c hc).1, ?_⟩
  rw [fineB, List.all_eq_true] at hf ⊢
  exact fun r hr => hf r ((chunks_mem c hc).2 r hr)

/-- The last level has one chunk. -/
theorem treeN_last : ∀ (k : Nat) (n : Int) (l : List Row), l.length ≤ k → rowsErr l = 0 → l ≠ [] → ∃ init c, treeN n l = init ++ [[c]] ∧ c ≠ [] ∧ fineB c = true
  | 0, n, l, hk, _, hl => absurd (List.eq_nil_of_length_eq_zero (Nat.le_zero.1 hk)) hl
  | k + 1, n, l, hk, ho, hl => by
    by_cases h1 : (chunks n l).length = 1
    · obtain ⟨c, hc⟩ := List.length_eq_one_iff.1 h1
      refine ⟨[], c, by rw [treeN_top hl h1, hc]; rfl, ?_⟩
      exact fine_chunk (ok_fine ho) n c (by rw [hc]; simp)
    · have h2 := chunks_half n l
      have h3 := chunks_pos (n := n) hl
      obtain ⟨init, c, he, hc⟩ := treeN_last k (n + 1) ((chunks n l).map tell) (by rw [List.length_map]; omega) (told_ok ho n) (by intro e; have := congrArg List.length e; simp at this; simp [this] at h3)
      exact ⟨chunks n l :: init, c, by rw [treeN_more hl h1, he]; rfl, hc⟩
theorem treeL_last {l : List Row} (ho : rowsErr l = 0) (hl : l ≠ []) : ∃ init c, treeL l = init ++ [[c]] ∧ c ≠ [] ∧ fineB c = true := treeN_last _ 0 l (Nat.le_refl _) ho hl

/-- A right tree is none, or has one chunk at its last level. -/
theorem treeErr_last {t : List (List (List Row))} (h : treeErr t = 0) (ht : t ≠ []) : ∃ init c, t = init ++ [[c]] ∧ c ≠ [] ∧ fineB c = true ∧ topL t = sumL c := by
  obtain ⟨h1, h2⟩ := treeErr_ok h
  obtain ⟨init, c, he, h3, h4⟩ := treeL_last h1 (l := flatL t) (by intro e; rw [e, treeL_nil] at h2; exact ht h2.symm)
  rw [h2] at he
  refine ⟨init, c, he, h3, h4, ?_⟩
  rw [topL, if_neg ht, he]
  simp

/-- C2: Rows' and Root's answers. -/
def treeRows (t : List (List (List Row))) : List Row × Int := if treeErr t = 0 then (flatL t, 0) else ([], treeErr t)
def treeRoot (t : List (List (List Row))) : Int × Int := if treeErr t = 0 then (topL t, 0) else (0, treeErr t)

end Go.Pch
end

section
namespace Go.Pch
open Go.RowKit Go.Proofs
set_option maxRecDepth 100000

abbrev tTree : Ty (List (List (List Row))) := tRow.slice.slice.slice

theorem treeBuild (v : Value) (l : List Row) (S : Blk) (w : World) (h : Sl tRow w S v l) :
    Calls Tryz.prog 9 #[v] w (Ret w fun r w' => ∃ x, r = .tuple #[x, .int .i64 (buildP l).2] ∧ Sl tRow.slice.slice w' (fun k => w.heap.size ≤ k) x (buildP l).1) := by
  by_cases he : rowsErr l = 0
  · have hP : buildP l = (treeL l, 0) := by rw [buildP, if_pos he]
    go_enter Tryz.func9, Tryz.ntmps9
    go_wp2_with fail
    refine (rowsCheck v l S w h).mono ?_; rintro e w1 ⟨_, rfl, rfl, b1⟩
    rw [he]
    go_wp2_with fail
    refine (treeOf v l S w1 (h.call b1) he).mono ?_; rintro e w2 ⟨x, rfl, hx, b2⟩
    have s1 := b1.size
    go_wp2
    go_ret2
    exact ⟨_, rfl, ⟨_, by rw [hP]; rfl, by rw [hP]; exact hx.mono fun k hk _ => by omega⟩, b1.trans (b2.mono s1)⟩
  · have he' : (rowsErr l != 0) = true := by simp [he]
    have hP : buildP l = ([], rowsErr l) := by rw [buildP, if_neg he]
    go_enter Tryz.func9, Tryz.ntmps9
    go_wp2_with fail
    refine (rowsCheck v l S w h).mono ?_; rintro e w1 ⟨_, rfl, rfl, b1⟩
    go_wp2
    go_ret2
    exact ⟨_, rfl, ⟨_, by rw [hP]; rfl, by rw [hP]; exact Sl.nil _ _ _⟩, b1⟩

theorem flat_head {t : List (List (List Row))} {X : List (List Row)} (h : t[0]? = some X) : flatL t = X.flatten := by
  cases t with
  | nil => simp at h
  | cons x t => simp at h; subst h; rfl
theorem head_of {α : Type} {t : List α} (h : t ≠ []) : ∃ X, t[0]? = some X ∧ 0 < t.length := by
  cases t with
  | nil => exact absurd rfl h
  | cons x t => exact ⟨x, rfl, by simp⟩



end Go.Pch
end

section
namespace Go.Pch
open Go.RowKit Go.Proofs
theorem refOwnS (v : Value) (r : Repo) (S : Blk) (w : World) (h : Rp w S v r) (h1 : r.1.length ≤ 1000) (h2 : r.2.length ≤ 1000) (h3 : ∀ c ∈ r.1, c.1.length ≤ 1000 ∧ c.2.length ≤ 1000) :
    Calls Tryz.prog 7 #[v] w (Ret w fun x W => Rp W (fun k => w.heap.size ≤ k) x r) := by
  refine (refOwn v r S w h h1 h2 h3).mono ?_
  rintro e w' ⟨x, rfl, ⟨vc, vh, rfl, ho⟩, hb⟩
  exact ⟨_, rfl, ho.rp, hb⟩
theorem buildP_is {l : List Row} (h : rowsErr l = 0) : buildP l = (treeL l, 0) := by rw [buildP, if_pos h]
theorem refRowsErr_of {c : Int} (v : Value) (l : List Row) (S : Blk) (w : World) (h : Sl tRow w S v l) (hc : rowsErr l = c) :
    Calls Tryz.prog 5 #[v] w (Ret w fun x _ => x = .int .i64 c) :=
  (refRowsError v l S w h).mono fun _ _ ⟨h1, h2⟩ => ⟨_, h1, by rw [hc], h2.below⟩
theorem treeBuildS {l : List Row} (v : Value) (S : Blk) (w : World) (h : Sl tRow w S v l) (hp : buildP l = (treeL l, 0)) :
    Calls Tryz.prog 9 #[v] w (Ret w fun r w' => ∃ x, r = .tuple #[x, .int .i64 0] ∧ Sl tRow.slice.slice w' (fun k => w.heap.size ≤ k) x (treeL l)) := by
  have := treeBuild v l S w h
  rwa [hp] at this
theorem refBuildS {l : List Row} (v : Value) (S : Blk) (w : World) (h : Sl tRow w S v l) (hp : buildP l = (treeL l, 0)) :
    Calls Tryz.prog 11 #[v] w (Ret w fun r w' => ∃ x, r = .tuple #[x, .int .i64 0] ∧ Sl tRow.slice.slice w' (fun k => w.heap.size ≤ k) x (treeL l)) := by
  have := refBuildOf v l S w h
  rwa [hp] at this
end Go.Pch
end
