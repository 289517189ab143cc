/- Plain words on a tree's levels: each tells of the one below; how many there are; no program is named here. -/
import Derived.Test.YtipondhhchicjaaTreeP
namespace Go.Pch

theorem rise_take {m : Int} : ∀ {c r : List Row}, riseB m (c ++ r) = true → riseB m c = true
  | [], _, _ => rfl
  | x :: c, r, h => by
    rw [List.cons_append, riseB_cons] at h
    rw [riseB_cons]
    exact ⟨h.1, rise_take h.2⟩
theorem rise_part {m : Int} : ∀ {X : List (List Row)}, riseB m X.flatten = true → ∀ c ∈ X, ∃ k, m ≤ k ∧ riseB k c = true
  | [], _, c, hc => by cases hc
  | d :: X, h, c, hc => by
    rw [List.flatten_cons] at h
    rcases List.mem_cons.1 hc with rfl | hc
    · exact ⟨m, Int.le_refl _, rise_take h⟩
    · obtain ⟨k, h1, h2⟩ := rise_drop h d.length
      rw [List.drop_left] at h2
      obtain ⟨k', h3, h4⟩ := rise_part h2 c hc
      exact ⟨k', by omega, h4⟩
/-- A chunk of right rows is right. -/
theorem chunk_ok {l : List Row} (h : rowsErr l = 0) (n : Int) : ∀ c ∈ chunks n l, c ≠ [] ∧ rowsErr c = 0 := fun c hc => by
  obtain ⟨h1, h2⟩ := ok_rise h
  refine ⟨(chunks_mem c hc).1, ?_⟩
  rw [← chunks_flatten n l] at h2
  obtain ⟨k, h3, h4⟩ := rise_part h2 c hc
  obtain ⟨i, hi, rfl⟩ := List.mem_iff_getElem.1 hc
  have := (chunks_sizes i _ (List.getElem?_eq_getElem hi)).2.1
  exact rowsErr_zero (by omega) (riseB_weaken h4 h3)

theorem treeN_head {n : Int} {l : List Row} {x : List (List Row)} (h : (treeN n l)[0]? = some x) : x = chunks n l := by
  by_cases hl : l = []
  · subst hl; simp [treeN_nil] at h
  · by_cases h1 : (chunks n l).length = 1
    · rw [treeN_top hl h1] at h; simpa using h.symm
    · rw [treeN_more hl h1] at h; simpa using h.symm
theorem treeN_tells : ∀ (i : Nat) (n : Int) (l : List Row) (x y : List (List Row)), rowsErr l = 0 → (treeN n l)[i]? = some x → (treeN n l)[i + 1]? = some y → y.flatten = x.map tell ∧ ∀ c ∈ x, c ≠ [] ∧ rowsErr c = 0
  | i, n, l, x, y, ho, hx, hy => by
    by_cases hl : l = []
    · subst hl; simp [treeN_nil] at hx
    · by_cases h1 : (chunks n l).length = 1
      · rw [treeN_top hl h1] at hy; simp at hy
      · rw [treeN_more hl h1] at hx hy
        cases i with
        | zero =>
          simp only [List.getElem?_cons_zero, Option.some.injEq] at hx
          simp only [Nat.zero_add, List.getElem?_cons_succ] at hy
          subst hx
          rw [treeN_head hy, chunks_flatten]
          exact ⟨rfl, chunk_ok ho n⟩
        | succ i =>
          simp only [List.getElem?_cons_succ] at hx hy
          exact treeN_tells i (n + 1) _ x y (told_ok ho n) hx hy
theorem treeL_tells {l : List Row} (ho : rowsErr l = 0) {i : Nat} {x y : List (List Row)} (hx : (treeL l)[i]? = some x) (hy : (treeL l)[i + 1]? = some y) : y.flatten = x.map tell ∧ ∀ c ∈ x, c ≠ [] ∧ rowsErr c = 0 :=
  treeN_tells i 0 l x y ho hx hy
theorem treeN_len : ∀ (k : Nat) (n : Int) (l : List Row), l.length ≤ 2 ^ k → (treeN n l).length ≤ k + 1
  | 0, n, l, h => by
    by_cases hl : l = []
    · subst hl; simp [treeN_nil]
    · have h2 := chunks_half n l
      have h3 := chunks_pos (n := n) hl
      rw [treeN_top hl (by omega)]
      simp
  | k + 1, n, l, h => by
    by_cases hl : l = []
    · subst hl; simp [treeN_nil]
    · by_cases h1 : (chunks n l).length = 1
      · rw [treeN_top hl h1]; simp
      · have h2 := chunks_half n l
        have := treeN_len k (n + 1) ((chunks n l).map tell) (by rw [List.length_map]; rw [Nat.pow_succ] at h; omega)
        rw [treeN_more hl h1, List.length_cons]
        omega
theorem treeL_len {l : List Row} (h : l.length ≤ 40) : (treeL l).length ≤ 7 := treeN_len 6 0 l (by omega)
theorem treeN_wide : ∀ (i : Nat) (n : Int) (l : List Row) (x : List (List Row)), (treeN n l)[i]? = some x → x.length ≤ l.length
  | i, n, l, x, hx => by
    have h0 := chunks_length n l
    by_cases hl : l = []
    · subst hl; simp [treeN_nil] at hx
    · by_cases h1 : (chunks n l).length = 1
      · rw [treeN_top hl h1] at hx
        have := List.mem_of_getElem? hx
        simp at this
        subst this
        exact h0
      · rw [treeN_more hl h1] at hx
        cases i with
        | zero => simp at hx; subst hx; exact h0
        | succ i =>
          simp only [List.getElem?_cons_succ] at hx
          have := treeN_wide i (n + 1) _ x hx
          rw [List.length_map] at this
          omega
theorem treeL_none {l : List Row} : treeL l = [] ↔ l = [] := by
  constructor
  · intro h
    have := flat_tree l
    rw [h] at this
    exact this.symm
  · rintro rfl; rfl

end Go.Pch
