/- Plain words of chapter 3 (trees) on lists; no program is named here. -/
import Derived.Test.YtipondhhchicjaaData
namespace Go.Pch

/-- A chunk's row in the level above. -/
def tell (c : List Row) : Row := ((c.getLast?.getD (0, 0)).1, sumL c)
/-- The levels, from level n on (f: fuel). -/
def treeF : Nat → Int → List Row → List (List (List Row))
  | 0, _, _ => []
  | f + 1, n, l => if l = [] then [] else if (chunks n l).length = 1 then [chunks n l] else chunks n l :: treeF f (n + 1) ((chunks n l).map tell)
/-- C1: the tree of right rows. -/
def treeL (l : List Row) : List (List (List Row)) := treeF l.length 0 l

theorem chunks_pos {n : Int} {l : List Row} (h : l ≠ []) : 0 < (chunks n l).length := by
  rw [chunks_cons n h]; simp
theorem half_of : ∀ (X : List (List Row)), (∀ (i : Nat) (c : List Row), X[i]? = some c → 0 < c.length ∧ (i + 1 < X.length → 2 ≤ c.length)) → 2 * X.length ≤ X.flatten.length + 1
  | [], _ => by simp
  | [c], h => by have := (h 0 c rfl).1; simp; omega
  | c :: d :: X, h => by
    have h0 := (h 0 c rfl).2 (by simp)
    have ih := half_of (d :: X) fun i e he => by
      have := h (i + 1) e (by simpa using he)
      exact ⟨this.1, fun hi => this.2 (by simp at hi ⊢; omega)⟩
    rw [List.flatten_cons, List.length_append, List.length_cons]
    omega
theorem chunks_half (n : Int) (l : List Row) : 2 * (chunks n l).length ≤ l.length + 1 := by
  have := half_of (chunks n l) fun i c hc => by have := chunks_sizes i c hc; exact ⟨this.1, this.2.2⟩
  rwa [chunks_flatten] at this

theorem treeF_more : ∀ (f g : Nat) (n : Int) (l : List Row), l.length ≤ f → l.length ≤ g → treeF f n l = treeF g n l
  | 0, 0, _, _, _, _ => rfl
  | 0, g + 1, n, l, h, _ => by
    have : l = [] := List.eq_nil_of_length_eq_zero (by omega)
    simp [treeF, this]
  | f + 1, 0, n, l, _, h => by
    have : l = [] := List.eq_nil_of_length_eq_zero (by omega)
    simp [treeF, this]
  | f + 1, g + 1, n, l, h1, h2 => by
    rw [treeF, treeF]
    split
    · rfl
    · rename_i hl
      split
      · rfl
      · rename_i h3
        have := chunks_half n l
        have := chunks_pos (n := n) hl
        rw [treeF_more f g (n + 1) ((chunks n l).map tell) (by rw [List.length_map]; omega) (by rw [List.length_map]; omega)]
/-- From a level on. -/
def treeN (n : Int) (l : List Row) : List (List (List Row)) := treeF l.length n l
theorem treeN_nil (n : Int) : treeN n [] = [] := rfl
theorem treeN_top {n : Int} {l : List Row} (h : l ≠ []) (h1 : (chunks n l).length = 1) : treeN n l = [chunks n l] := by
  have : 0 < l.length := by cases l <;> simp_all
  obtain ⟨k, hk⟩ : ∃ k, l.length = k + 1 := ⟨l.length - 1, by omega⟩
  rw [treeN, hk, treeF, if_neg h, if_pos h1]
theorem treeN_more {n : Int} {l : List Row} (h : l ≠ []) (h1 : (chunks n l).length ≠ 1) : treeN n l = chunks n l :: treeN (n + 1) ((chunks n l).map tell) := by
  have : 0 < l.length := by cases l <;> simp_all
  obtain ⟨k, hk⟩ : ∃ k, l.length = k + 1 := ⟨l.length - 1, by omega⟩
  have h2 := chunks_half n l
  have h3 := chunks_pos (n := n) h
  rw [treeN, hk, treeF, if_neg h, if_neg h1, treeN]
  rw [treeF_more k _ _ _ (by rw [List.length_map]; omega) (Nat.le_refl _)]

theorem rise_append {m : Int} : ∀ {c r : List Row}, c ≠ [] → riseB m (c ++ r) = true → m < (c.getLast?.getD (0, 0)).1 ∧ (c.getLast?.getD (0, 0)).1 ≤ 99 ∧ riseB (c.getLast?.getD (0, 0)).1 r = true
  | [], _, h, _ => absurd rfl h
  | [x], r, _, h => by
    rw [List.singleton_append, riseB_cons] at h
    simpa using ⟨h.1.1, h.1.2.1, h.2⟩
  | x :: y :: c, r, _, h => by
    rw [List.cons_append, riseB_cons] at h
    have := rise_append (c := y :: c) (r := r) (by simp) h.2
    rw [List.getLast?_cons_cons]
    exact ⟨by omega, this.2.1, this.2.2⟩
theorem told_rise : ∀ (X : List (List Row)) (m : Int), (∀ c ∈ X, c ≠ []) → riseB m X.flatten = true → riseB m (X.map tell) = true
  | [], _, _, _ => rfl
  | c :: X, m, h, hr => by
    rw [List.flatten_cons] at hr
    have h1 := rise_append (h c (by simp)) hr
    have hb := fold_bounds c
    rw [List.map_cons, riseB_cons]
    exact ⟨⟨h1.1, h1.2.1, hb.1, hb.2⟩, told_rise X _ (fun d hd => h d (by simp [hd])) h1.2.2⟩
/-- What tells of right rows' chunks is right. -/
theorem told_ok {l : List Row} (h : rowsErr l = 0) (n : Int) : rowsErr ((chunks n l).map tell) = 0 := by
  obtain ⟨h1, h2⟩ := ok_rise h
  refine rowsErr_zero ?_ ?_
  · have := chunks_length n l
    rw [List.length_map]; omega
  · exact told_rise _ _ (fun c hc => (chunks_mem c hc).1) (by rw [chunks_flatten]; exact h2)

end Go.Pch
