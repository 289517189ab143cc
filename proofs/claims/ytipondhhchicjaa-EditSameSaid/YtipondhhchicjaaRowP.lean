/- Plain words of chapter 1: where a key stands in right rows, and putting it there; no program is named here. -/
import Derived.Test.YtipondhhchicjaaData
namespace Go.Pch

/-- How many rows have lesser keys. -/
def seekN : List Row → Int → Nat
  | [], _ => 0
  | r :: l, k => if r.1 < k then seekN l k + 1 else 0
/-- Is the key there? -/
def hasB (l : List Row) (k : Int) : Bool := match l[seekN l k]? with
  | some r => decide (r.1 = k)
  | none => false

theorem seekN_le : ∀ (l : List Row) (k : Int), seekN l k ≤ l.length
  | [], _ => Nat.le_refl _
  | r :: l, k => by
    rw [seekN]
    split
    · have := seekN_le l k
      simp only [List.length_cons]
      omega
    · omega
theorem seekN_low : ∀ (l : List Row) (k : Int) (i : Nat) (h : i < l.length), i < seekN l k → l[i].1 < k
  | [], _, i, h, _ => by simp at h
  | r :: l, k, i, h, hi => by
    rw [seekN] at hi
    split at hi
    · rename_i hr
      cases i with
      | zero => exact hr
      | succ i => exact seekN_low l k i (by simpa using h) (by omega)
    · omega
theorem rise_all {m : Int} : ∀ {l : List Row}, riseB m l = true → ∀ r ∈ l, m < r.1
  | [], _, r, hr => by cases hr
  | q :: l, h, r, hr => by
    rw [riseB_cons] at h
    rcases List.mem_cons.1 hr with rfl | hr
    · exact h.1.1
    · have := rise_all h.2 r hr; omega
theorem seekN_high : ∀ {m : Int} {l : List Row}, riseB m l = true → ∀ (k : Int) (i : Nat) (h : i < l.length), seekN l k ≤ i → k ≤ l[i].1
  | _, [], _, _, i, h, _ => by simp at h
  | m, r :: l, hr, k, i, h, hi => by
    rw [riseB_cons] at hr
    rw [seekN] at hi
    split at hi
    · cases i with
      | zero => omega
      | succ i => exact seekN_high hr.2 k i (by simpa using h) (by omega)
    · rename_i hk
      have := rise_all (m := r.1 - 1) (l := r :: l) (by rw [riseB_cons]; exact ⟨by omega, hr.2⟩) _ (List.getElem_mem h)
      omega
theorem rise_lt {m : Int} : ∀ {l : List Row}, riseB m l = true → ∀ {i j : Nat} (_ : i < j) (hj : j < l.length), l[i].1 < l[j].1
  | [], _, i, j, _, hj => by simp at hj
  | r :: l, h, i, j, hij, hj => by
    rw [riseB_cons] at h
    cases j with
    | zero => omega
    | succ j =>
      have hj' : j < l.length := by simpa using hj
      cases i with
      | zero => exact rise_all h.2 _ (List.getElem_mem hj')
      | succ i => exact rise_lt h.2 (by omega) hj'
/-- The one place that parts the lesser keys from the others. -/
theorem seekN_eq {m : Int} {l : List Row} (h : riseB m l = true) {k : Int} {i : Nat} (hi : i ≤ l.length) (h1 : ∀ (j : Nat) (hj : j < l.length), j < i → l[j].1 < k) (h2 : ∀ (j : Nat) (hj : j < l.length), i ≤ j → k ≤ l[j].1) : seekN l k = i := by
  have hn := seekN_le l k
  rcases Nat.lt_trichotomy (seekN l k) i with hlt | he | hgt
  · have a := h1 (seekN l k) (by omega) hlt
    have b := seekN_high h k (seekN l k) (by omega) (Nat.le_refl _)
    omega
  · exact he
  · have a := h2 i (by omega) (Nat.le_refl _)
    have b := seekN_low l k i (by omega) hgt
    omega
theorem valueOf_seek : ∀ {m : Int} {l : List Row}, riseB m l = true → ∀ (k : Int), valueOf l k = match l[seekN l k]? with | some r => if r.1 = k then r.2 else -1 | none => -1
  | _, [], _, k => rfl
  | m, r :: l, h, k => by
    rw [riseB_cons] at h
    rw [valueOf, seekN]
    by_cases h1 : r.1 = k
    · rw [if_pos h1, if_neg (by omega)]
      simp [h1]
    · rw [if_neg h1]
      by_cases h2 : r.1 < k
      · rw [if_pos h2, List.getElem?_cons_succ]
        exact valueOf_seek h.2 k
      · rw [if_neg h2, valueOf_low h.2 (by omega)]
        simp [h1]
theorem valueOf_has {m : Int} {l : List Row} (h : riseB m l = true) {k : Int} (hk : hasB l k = true) : ∃ r, l[seekN l k]? = some r ∧ r.1 = k ∧ valueOf l k = r.2 := by
  rw [valueOf_seek h k]
  unfold hasB at hk
  cases hl : l[seekN l k]? with
  | none => rw [hl] at hk; cases hk
  | some r =>
    rw [hl] at hk
    have hk' : r.1 = k := by simpa using hk
    exact ⟨r, rfl, hk', by simp [hk']⟩
theorem valueOf_hasnt {m : Int} {l : List Row} (h : riseB m l = true) {k : Int} (hk : hasB l k = false) : valueOf l k = -1 := by
  rw [valueOf_seek h k]
  unfold hasB at hk
  cases hl : l[seekN l k]? with
  | none => rfl
  | some r =>
    rw [hl] at hk
    have hk' : ¬ r.1 = k := by simpa using hk
    simp [hk']

/-- Rows, a key of which is set (-1: taken away). -/
def setL (l : List Row) (key val : Int) : List Row :=
  l.take (seekN l key) ++ ((if val = -1 then [] else [(key, val)]) ++ l.drop (seekN l key + if hasB l key then 1 else 0))

theorem setL_cons_lt {r : Row} {l : List Row} {key val : Int} (h : r.1 < key) : setL (r :: l) key val = r :: setL l key val := by
  unfold setL hasB
  rw [seekN, if_pos h]
  simp only [List.take_succ_cons, List.getElem?_cons_succ, List.cons_append]
  rw [show seekN l key + 1 + (if (match l[seekN l key]? with | some r => decide (r.1 = key) | none => false) = true then 1 else 0) = (seekN l key + (if (match l[seekN l key]? with | some r => decide (r.1 = key) | none => false) = true then 1 else 0)) + 1 by omega, List.drop_succ_cons]
theorem setL_cons_eq {r : Row} {l : List Row} {key val : Int} (h : r.1 = key) : setL (r :: l) key val = (if val = -1 then [] else [(key, val)]) ++ l := by
  unfold setL hasB
  rw [seekN, if_neg (by omega)]
  simp [h]
theorem setL_cons_gt {r : Row} {l : List Row} {key val : Int} (h : key < r.1) : setL (r :: l) key val = (if val = -1 then [] else [(key, val)]) ++ r :: l := by
  unfold setL hasB
  rw [seekN, if_neg (by omega)]
  simp [show ¬ r.1 = key by omega]
theorem setL_nil (key val : Int) : setL [] key val = if val = -1 then [] else [(key, val)] := by simp [setL]

theorem setL_rise : ∀ {m : Int} {l : List Row}, riseB m l = true → ∀ {key val : Int}, m < key → key ≤ 99 → -1 ≤ val → val ≤ 996 → riseB m (setL l key val) = true
  | m, [], _, key, val, h1, h2, h3, h4 => by
    rw [setL_nil]
    split
    · rfl
    · rw [riseB_cons]; exact ⟨⟨h1, h2, by show 0 ≤ val; omega, h4⟩, rfl⟩
  | m, r :: l, h, key, val, h1, h2, h3, h4 => by
    have h' := h
    rw [riseB_cons] at h
    rcases Int.lt_trichotomy r.1 key with hlt | heq | hgt
    · rw [setL_cons_lt hlt, riseB_cons]
      exact ⟨h.1, setL_rise h.2 hlt h2 h3 h4⟩
    · rw [setL_cons_eq heq]
      split
      · exact riseB_weaken h.2 (by omega)
      · rw [List.singleton_append, riseB_cons]
        exact ⟨⟨h1, h2, by show 0 ≤ val; omega, h4⟩, by show riseB key l = true; rw [← heq]; exact h.2⟩
    · rw [setL_cons_gt hgt]
      split
      · exact h'
      · rw [List.singleton_append, riseB_cons]
        refine ⟨⟨h1, h2, by show 0 ≤ val; omega, h4⟩, ?_⟩
        rw [riseB_cons]
        exact ⟨⟨hgt, h.1.2⟩, h.2⟩
theorem setL_value : ∀ {m : Int} {l : List Row}, riseB m l = true → ∀ (key val k : Int), valueOf (setL l key val) k = if k = key then val else valueOf l k
  | m, [], _, key, val, k => by
    rw [setL_nil]
    by_cases hv : val = -1
    · rw [if_pos hv, valueOf]
      split
      · exact hv.symm
      · rfl
    · rw [if_neg hv, valueOf, valueOf]
      by_cases hk : key = k
      · rw [if_pos hk, if_pos hk.symm]
      · rw [if_neg hk, if_neg (fun e => hk e.symm)]; rfl
  | m, r :: l, h, key, val, k => by
    rw [riseB_cons] at h
    rcases Int.lt_trichotomy r.1 key with hlt | heq | hgt
    · rw [setL_cons_lt hlt, valueOf, valueOf]
      by_cases hk : r.1 = k
      · rw [if_pos hk, if_pos hk, if_neg (by omega)]
      · rw [if_neg hk, if_neg hk]
        exact setL_value h.2 key val k
    · rw [setL_cons_eq heq]
      by_cases hv : val = -1
      · rw [if_pos hv, List.nil_append]
        by_cases hk : k = key
        · rw [if_pos hk, hv]; exact valueOf_low h.2 (by omega)
        · rw [if_neg hk, valueOf, if_neg (by omega)]
      · rw [if_neg hv, List.singleton_append, valueOf]
        by_cases hk : key = k
        · rw [if_pos hk, if_pos hk.symm]
        · rw [if_neg hk, if_neg (fun e => hk e.symm), valueOf, if_neg (by omega)]
    · rw [setL_cons_gt hgt]
      by_cases hv : val = -1
      · rw [if_pos hv, List.nil_append]
        by_cases hk : k = key
        · rw [if_pos hk, hv, valueOf, if_neg (by omega)]; exact valueOf_low h.2 (by omega)
        · rw [if_neg hk]
      · rw [if_neg hv, List.singleton_append, valueOf]
        by_cases hk : key = k
        · rw [if_pos hk, if_pos hk.symm]
        · rw [if_neg hk, if_neg (fun e => hk e.symm)]
/-- Set is what the table says. -/
theorem setL_put {l : List Row} (h : riseB (-1) l = true) {key val : Int} (h1 : keyB key = true) (h2 : valB val = true) : setL l key val = putL l key val := by
  simp only [keyB, valB, Bool.and_eq_true, decide_eq_true_eq] at h1 h2
  refine folded_eq (setL_rise h (by omega) h1.2 h2.1 h2.2) (fun k h3 h4 => ?_) fun k => ?_
  · rw [setL_value h]
  · split
    · exact h2
    · exact valueOf_bounds h k
theorem setL_len (l : List Row) (key val : Int) : (setL l key val).length ≤ l.length + 1 := by
  have := seekN_le l key
  unfold setL
  split <;> simp <;> omega

/-- A2: Find's and Put's answers. -/
def findP (l : List Row) (key : Int) : Int × Int := if rowsErr l = 0 then (if keyB key then (valueOf l key, 0) else (0, 3)) else (0, rowsErr l)
def putP (l : List Row) (key val : Int) : List Row × Int :=
  if rowsErr l = 0 then (if (keyB key && valB val) = true then (if 40 < (putL l key val).length then ([], 2) else (putL l key val, 0)) else ([], 3)) else ([], rowsErr l)

end Go.Pch
