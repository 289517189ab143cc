/- Plain laws of chapter 6; no program is named here. -/
import Derived.Test.YtipondhhchicjaaDiffP
import Derived.Test.YtipondhhchicjaaPatP
namespace Go.Pch

theorem diff_match {x y : Int → Int} {l : List Row} (h : ∀ k, valueOf l k = x k) : matchB l (diffL x y) = true := by
  refine List.all_eq_true.2 fun c hc => ?_
  obtain ⟨_, _, e, _⟩ := (mem_diff 100 0).1 hc
  rw [decide_eq_true_eq, h, e]
theorem patch_diff {a b : List Row} (ha : rowsErr a = 0) (hb : rowsErr b = 0) : patchP a (diffL (valueOf a) (valueOf b)) = (b, 0) := by
  obtain ⟨_, ra⟩ := ok_rise ha
  obtain ⟨lb, rb⟩ := ok_rise hb
  have hf := diffL_fine (valueOf_bounds ra) (valueOf_bounds rb)
  have hm : matchB a (diffL (valueOf a) (valueOf b)) = true := diff_match fun _ => rfl
  have hs : setAll a (diffL (valueOf a) (valueOf b)) = b := by
    refine rows_ext (setAll_rise (by omega) ra hf) rb fun k h0 h1 => ?_
    rw [setAll_value (by omega) ra hf]
    cases hq : (diffL (valueOf a) (valueOf b)).find? (fun x => decide (x.1 = k)) with
    | some c =>
      have h2 := List.find?_some hq
      have h3 := List.mem_of_find?_eq_some hq
      obtain ⟨_, _, _, e, _⟩ := (mem_diff 100 0).1 h3
      have h2' : c.1 = k := by simpa using h2
      show c.2.2 = _
      rw [e, h2']
    | none =>
      have hno := List.find?_eq_none.1 hq
      show valueOf a k = _
      by_cases h : valueOf a k = valueOf b k
      · exact h
      · exact absurd (hno (k, valueOf a k, valueOf b k) ((mem_diff 100 0).2 ⟨by show 0 ≤ k; omega, by show k < _; omega, rfl, rfl, h⟩)) (by simp)
  rw [patchP_ok ha hf hm (by rw [hs]; omega), hs]
theorem swap_diff (x y : Int → Int) : ∀ (n : Nat) (k : Int), (diffFrom x y n k).map swapC = diffFrom y x n k
  | 0, _ => rfl
  | n + 1, k => by
    rw [diffFrom, diffFrom]
    by_cases h : x k = y k
    · rw [if_pos h, if_pos h.symm, swap_diff x y n]
    · rw [if_neg h, if_neg (fun e => h e.symm), List.map_cons, swap_diff x y n]; rfl
theorem swap_diffL (x y : Int → Int) : (diffL x y).map swapC = diffL y x := swap_diff x y 100 0
theorem back_diff {a b : List Row} (ha : rowsErr a = 0) (hb : rowsErr b = 0) : backP (diffL (valueOf a) (valueOf b)) = (diffL (valueOf b) (valueOf a), 0) := by
  rw [backP, if_pos (diffL_fine (valueOf_bounds (ok_rise ha).2) (valueOf_bounds (ok_rise hb).2)), swap_diffL]
theorem diff_trees {a b : List Row} (ha : rowsErr a = 0) (hb : rowsErr b = 0) : diffP (treeL a) (treeL b) = (diffL (valueOf a) (valueOf b), 0) := by
  rw [diffP, if_pos (treeErr_tree ha), if_pos (treeErr_tree hb), flat_tree, flat_tree]
theorem diff_same (x : Int → Int) : ∀ (n : Nat) (k : Int), diffFrom x x n k = []
  | 0, _ => rfl
  | n + 1, k => by rw [diffFrom, if_pos rfl, diff_same x n]
theorem diff_empty {a b : List Row} (ha : rowsErr a = 0) (hb : rowsErr b = 0) : diffL (valueOf a) (valueOf b) = [] ↔ treeL a = treeL b := by
  constructor
  · intro h
    have hp := patch_diff ha hb
    rw [h, patchP_ok ha rfl rfl (by have := (ok_rise ha).1; show ¬ 40 < a.length; omega)] at hp
    have : a = b := (Prod.mk.inj hp).1
    rw [this]
  · intro h
    have : a = b := by rw [← flat_tree a, h, flat_tree b]
    rw [this]
    exact diff_same _ 100 0
theorem diff_len {a b : List Row} (ha : rowsErr a = 0) (hb : rowsErr b = 0) : (diffL (valueOf a) (valueOf b)).length ≤ a.length + b.length := by
  rw [← betw_diff (ok_rise ha).2 (ok_rise hb).2]
  exact betw_len a b
theorem diff_at {a b : List Row} (ha : rowsErr a = 0) (hb : rowsErr b = 0) {c : Change} (hc : c ∈ diffL (valueOf a) (valueOf b)) : findP a c.1 = (c.2.1, 0) ∧ findP b c.1 = (c.2.2, 0) ∧ c.2.1 ≠ c.2.2 := by
  obtain ⟨h0, h1, e1, e2, e3⟩ := (mem_diff 100 0).1 hc
  have hk : keyB c.1 = true := by simp [keyB]; omega
  refine ⟨by rw [findP, if_pos ha, if_pos hk, e1], by rw [findP, if_pos hb, if_pos hk, e2], by rw [e1, e2]; exact e3⟩
theorem buildP_ok {l : List Row} {e : Int} {t : List (List (List Row))} (h : rowsErr l = 0) : (if rowsErr l = 0 then (treeL l, (0 : Int)) else (t, e)) = (treeL l, 0) := if_pos h

end Go.Pch
