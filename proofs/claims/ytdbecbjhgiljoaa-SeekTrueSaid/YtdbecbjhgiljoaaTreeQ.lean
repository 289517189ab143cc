/- Plain words on the tree of twelve rows, one of which was changed; no program is named here. -/
import Derived.Test.YtdbecbjhgiljoaaTreeP
import Derived.Test.YtdbecbjhgiljoaaPoke
namespace Go.Pch

def treeMany : List (List (List Row)) := [[[(0, 0), (3, 1), (6, 2), (9, 3)], [(12, 4), (15, 5), (18, 6)], [(21, 7), (24, 8), (27, 9)], [(30, 10), (33, 11)]], [[(9, 814), (18, 251), (27, 984), (33, 79)]]]

theorem tree_second {l : List Row} {x y : List (List Row)} {z : List (List (List Row))} (h : treeL l = x :: y :: z) : y.flatten = x.map tell := by
  by_cases hl : l = []
  · subst hl; cases h
  · by_cases h1 : (chunks 0 l).length = 1
    · have := treeN_top (n := 0) hl h1
      rw [treeL] at h
      rw [treeN, h] at this
      simp at this
    · have hm := treeN_more (n := 0) hl h1
      rw [treeL] at h
      rw [treeN, h] at hm
      injection hm with e1 e2
      subst e1
      by_cases ht : (chunks 0 l).map tell = []
      · rw [ht, treeN_nil] at e2; cases e2
      · by_cases h2 : (chunks (0 + 1) ((chunks 0 l).map tell)).length = 1
        · rw [treeN_top ht h2] at e2
          injection e2 with e3 _
          rw [e3, chunks_flatten]
        · rw [treeN_more ht h2] at e2
          injection e2 with e3 _
          rw [e3, chunks_flatten]

theorem near_cons {α : Type} {R : α → α → Prop} {x : α} {l l' : List α} (h : nearList R (x :: l) l') : ∃ x' m, l' = x' :: m ∧ R x x' ∧ nearList R l m := by
  obtain ⟨h1, h2⟩ := h
  match l', h1 with
  | x' :: m, h1 => exact ⟨x', m, rfl, h2 0 x x' rfl rfl, by simpa using h1, fun i a b ha hb => h2 (i + 1) a b (by simpa using ha) (by simpa using hb)⟩
theorem near_nil {α : Type} {R : α → α → Prop} {l' : List α} (h : nearList R [] l') : l' = [] := List.eq_nil_of_length_eq_zero h.1

theorem treeMany_poked {t : List (List (List Row))} (h : nearList (nearList (nearList nearRow)) treeMany t) (h0 : ∃ x y r, t[0]? = some x ∧ x[0]? = some y ∧ y[0]? = some r ∧ r.2 = 9) : treeErr t = 1 := by
  apply treeErr_no
  rintro ⟨ho, ht⟩
  obtain ⟨x, t1, rfl, hx, h⟩ := near_cons h
  obtain ⟨y, t2, rfl, hy, h⟩ := near_cons h
  have hsec := tree_second ht
  obtain ⟨c, x1, rfl, hc, hx⟩ := near_cons hx
  obtain ⟨d, y1, rfl, hd, hy⟩ := near_cons hy
  obtain ⟨r0, c1, rfl, hr0, hc⟩ := near_cons hc
  obtain ⟨r1, c2, rfl, hr1, hc⟩ := near_cons hc
  obtain ⟨r2, c3, rfl, hr2, hc⟩ := near_cons hc
  obtain ⟨r3, c4, rfl, hr3, hc⟩ := near_cons hc
  obtain rfl := near_nil hc
  obtain ⟨q, d1, rfl, hq, hd⟩ := near_cons hd
  obtain ⟨x', y', r', e1, e2, e3, h9⟩ := h0
  simp at e1 e2 e3
  subst e1
  simp at e2
  subst e2
  simp at e3
  subst e3
  have hri := (ok_rise ho).2
  simp only [flatL, List.headD_cons, List.flatten_cons, List.cons_append, riseB_cons] at hri
  obtain ⟨b0, b1, b2, b3, _⟩ := hri
  simp only [List.flatten_cons, List.cons_append, List.map_cons, List.cons.injEq] at hsec
  have hs := hsec.1
  obtain ⟨k0, v0⟩ := r0
  obtain ⟨k1, v1⟩ := r1
  obtain ⟨k2, v2⟩ := r2
  obtain ⟨k3, v3⟩ := r3
  obtain ⟨qk, qv⟩ := q
  simp only [nearRow] at hr0 hr1 hr2 hr3 hq h9 b0 b1 b2 b3
  subst h9
  obtain rfl : k3 = 9 := by omega
  obtain rfl : k2 = 6 := by omega
  obtain rfl : k1 = 3 := by omega
  obtain rfl : k0 = 0 := by omega
  have hv : qv = sumL [(0, 9), (3, v1), (6, v2), (9, v3)] := by
    have := congrArg Prod.snd hs
    simpa [tell] using this
  rcases hr1.2 with rfl | rfl <;> rcases hr2.2 with rfl | rfl <;> rcases hr3.2 with rfl | rfl <;> rcases hq.2 with rfl | rfl <;> revert hv <;> decide

end Go.Pch
