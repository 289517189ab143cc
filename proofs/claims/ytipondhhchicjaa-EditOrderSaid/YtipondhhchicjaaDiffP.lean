/- Plain words of chapter 6: differences of trees, passing over what is the same at both ends; no program is named here. -/
import Derived.Test.YtipondhhchicjaaChgP
import Derived.Test.YtipondhhchicjaaTreeP
namespace Go.Pch

/-- How many of the first ones are the same. -/
def aheadN {α : Type} [DecidableEq α] : List α → List α → Nat
  | c :: a, d :: b => if c = d then aheadN a b + 1 else 0
  | _, _ => 0
theorem ahead_le {α : Type} [DecidableEq α] : ∀ (a b : List α), aheadN a b ≤ a.length ∧ aheadN a b ≤ b.length
  | [], b => by simp [aheadN]
  | c :: a, [] => by simp [aheadN]
  | c :: a, d :: b => by
    have := ahead_le a b
    rw [aheadN]
    split <;> simp <;> omega
theorem ahead_take {α : Type} [DecidableEq α] : ∀ (a b : List α), a.take (aheadN a b) = b.take (aheadN a b)
  | [], b => by simp [aheadN]
  | c :: a, [] => by simp [aheadN]
  | c :: a, d :: b => by
    rw [aheadN]
    split
    · rename_i h
      rw [List.take_succ_cons, List.take_succ_cons, ahead_take a b, h]
    · rfl
theorem ahead_go {α : Type} [DecidableEq α] {a b : List α} {k : Nat} {c d : α} (h1 : a[k]? = some c) (h2 : b[k]? = some d) (h : c = d) : aheadN (a.drop k) (b.drop k) = aheadN (a.drop (k + 1)) (b.drop (k + 1)) + 1 := by
  obtain ⟨hk1, rfl⟩ := List.getElem?_eq_some_iff.1 h1
  obtain ⟨hk2, rfl⟩ := List.getElem?_eq_some_iff.1 h2
  rw [List.drop_eq_getElem_cons hk1, List.drop_eq_getElem_cons hk2, aheadN, if_pos h]
theorem ahead_stop {α : Type} [DecidableEq α] {a b : List α} {k : Nat} {c d : α} (h1 : a[k]? = some c) (h2 : b[k]? = some d) (h : c ≠ d) : aheadN (a.drop k) (b.drop k) = 0 := by
  obtain ⟨hk1, rfl⟩ := List.getElem?_eq_some_iff.1 h1
  obtain ⟨hk2, rfl⟩ := List.getElem?_eq_some_iff.1 h2
  rw [List.drop_eq_getElem_cons hk1, List.drop_eq_getElem_cons hk2, aheadN, if_neg h]
theorem ahead_end {α : Type} [DecidableEq α] {a b : List α} {k : Nat} (h : a.length ≤ k ∨ b.length ≤ k) : aheadN (a.drop k) (b.drop k) = 0 := by
  rcases h with h | h
  · rw [List.drop_of_length_le h]; simp [aheadN]
  · rw [List.drop_of_length_le h]; cases a.drop k <;> simp [aheadN]

/-- What is not the same at both ends. -/
def trimL (x y : List (List Row)) : List (List Row) × List (List Row) :=
  let a := x.drop (aheadN x y)
  let b := y.drop (aheadN x y)
  let n := aheadN a.reverse b.reverse
  ((a.reverse.drop n).reverse, (b.reverse.drop n).reverse)
theorem trim_parts (x y : List (List Row)) : ∃ p q, x = p ++ ((trimL x y).1 ++ q) ∧ y = p ++ ((trimL x y).2 ++ q) := by
  have h1 := ahead_take x y
  have h2 := ahead_take (x.drop (aheadN x y)).reverse (y.drop (aheadN x y)).reverse
  refine ⟨x.take (aheadN x y), (((x.drop (aheadN x y)).reverse.take (aheadN (x.drop (aheadN x y)).reverse (y.drop (aheadN x y)).reverse))).reverse, ?_, ?_⟩
  · simp only [trimL]
    rw [← List.reverse_append, List.take_append_drop, List.reverse_reverse, List.take_append_drop]
  · simp only [trimL]
    rw [h2, ← List.reverse_append, List.take_append_drop, List.reverse_reverse, h1, List.take_append_drop]

theorem valueOf_append {m : Int} : ∀ {p u : List Row}, riseB m (p ++ u) = true → ∀ k, valueOf (p ++ u) k = if valueOf p k = -1 then valueOf u k else valueOf p k
  | [], u, _, k => by simp [valueOf]
  | r :: p, u, h, k => by
    rw [List.cons_append, riseB_cons] at h
    rw [List.cons_append, valueOf, valueOf]
    by_cases hk : r.1 = k
    · rw [if_pos hk, if_pos hk, if_neg (by omega)]
    · rw [if_neg hk, if_neg hk]
      exact valueOf_append h.2 k
theorem rise_parts {m : Int} : ∀ {p u : List Row}, riseB m (p ++ u) = true → riseB m p = true ∧ riseB m u = true ∧ ∀ k, valueOf p k ≠ -1 → valueOf u k = -1
  | [], u, h => ⟨rfl, h, fun k hk => absurd rfl hk⟩
  | r :: p, u, h => by
    rw [List.cons_append, riseB_cons] at h
    obtain ⟨h1, h2, h3⟩ := rise_parts h.2
    refine ⟨by rw [riseB_cons]; exact ⟨h.1, h1⟩, riseB_weaken h2 (by omega), fun k hk => ?_⟩
    rw [valueOf] at hk
    by_cases hr : r.1 = k
    · exact valueOf_low h2 (by omega)
    · rw [if_neg hr] at hk
      exact h3 k hk
/-- What is the same at both ends makes no difference. -/
theorem betw_mid {p u v q : List Row} (h1 : riseB (-1) (p ++ (u ++ q)) = true) (h2 : riseB (-1) (p ++ (v ++ q)) = true) : betw (p ++ (u ++ q)) (p ++ (v ++ q)) = betw u v := by
  obtain ⟨a1, a2, a3⟩ := rise_parts h1
  obtain ⟨b1, b2, b3⟩ := rise_parts h2
  obtain ⟨c1, c2, c3⟩ := rise_parts a2
  obtain ⟨d1, d2, d3⟩ := rise_parts b2
  rw [betw_diff h1 h2, betw_diff c1 d1]
  refine diff_congr 100 0 fun j _ _ => ?_
  have e1 := valueOf_append h1 j
  have e2 := valueOf_append h2 j
  have e3 := valueOf_append a2 j
  have e4 := valueOf_append b2 j
  have a3 := a3 j
  have b3 := b3 j
  have c3 := c3 j
  have d3 := d3 j
  rw [e3] at e1 a3
  rw [e4] at e2 b3
  rw [e1, e2]
  by_cases hp : valueOf p j = -1
  · rw [if_pos hp, if_pos hp]
    by_cases hq : valueOf q j = -1
    · rw [hq]
      have eu : (if valueOf u j = -1 then -1 else valueOf u j) = valueOf u j := by split <;> simp_all
      have ev : (if valueOf v j = -1 then -1 else valueOf v j) = valueOf v j := by split <;> simp_all
      rw [eu, ev]
      exact ⟨Iff.rfl, fun _ => ⟨rfl, rfl⟩⟩
    · have hu : valueOf u j = -1 := by
        by_cases h : valueOf u j = -1
        · exact h
        · exact absurd (c3 h) hq
      have hv : valueOf v j = -1 := by
        by_cases h : valueOf v j = -1
        · exact h
        · exact absurd (d3 h) hq
      rw [if_pos hu, if_pos hv, hu, hv]
      exact ⟨⟨fun _ => rfl, fun _ => rfl⟩, fun h => absurd rfl h⟩
  · have a4 := a3 hp
    have b4 := b3 hp
    have hu : valueOf u j = -1 := by
      by_cases h : valueOf u j = -1
      · exact h
      · rw [if_neg h] at a4; exact absurd a4 h
    have hv : valueOf v j = -1 := by
      by_cases h : valueOf v j = -1
      · exact h
      · rw [if_neg h] at b4; exact absurd b4 h
    rw [if_neg hp, if_neg hp, hu, hv]
    exact ⟨⟨fun _ => rfl, fun _ => rfl⟩, fun h => absurd rfl h⟩

/-- F1: Of's answer. -/
def diffP (t u : List (List (List Row))) : List Change × Int :=
  if treeErr t = 0 then (if treeErr u = 0 then (diffL (valueOf (flatL t)) (valueOf (flatL u)), 0) else ([], treeErr u)) else ([], treeErr t)
theorem diff_trim {t u : List (List (List Row))} (ht : treeErr t = 0) (hu : treeErr u = 0) :
    betw (trimL (t.headD []) (u.headD [])).1.flatten (trimL (t.headD []) (u.headD [])).2.flatten = diffL (valueOf (flatL t)) (valueOf (flatL u)) := by
  have h1 := (ok_rise (treeErr_ok ht).1).2
  have h2 := (ok_rise (treeErr_ok hu).1).2
  obtain ⟨p, q, e1, e2⟩ := trim_parts (t.headD []) (u.headD [])
  have f1 : flatL t = p.flatten ++ ((trimL (t.headD []) (u.headD [])).1.flatten ++ q.flatten) := by
    conv => lhs; rw [flatL, e1, List.flatten_append, List.flatten_append]
  have f2 : flatL u = p.flatten ++ ((trimL (t.headD []) (u.headD [])).2.flatten ++ q.flatten) := by
    conv => lhs; rw [flatL, e2, List.flatten_append, List.flatten_append]
  rw [← betw_diff h1 h2, f1, f2]
  rw [f1] at h1
  rw [f2] at h2
  rw [betw_mid h1 h2]
theorem diff_none {t u : List (List (List Row))} (ht : treeErr t = 0) (hu : treeErr u = 0) : betw (flatL t) (flatL u) = diffL (valueOf (flatL t)) (valueOf (flatL u)) :=
  betw_diff (ok_rise (treeErr_ok ht).1).2 (ok_rise (treeErr_ok hu).1).2

end Go.Pch
