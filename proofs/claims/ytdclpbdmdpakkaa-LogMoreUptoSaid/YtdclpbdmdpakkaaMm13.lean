/- Plain words of chapters 6 and 7: changes, differences, patches, merges of rows; no program is named here. Plain words of chapter 7: three ways; no program is named here. Chapter 10: what Put, Branch, Drop and Merge answer: plain words. -/
import Derived.Test.YtdclpbdmdpakkaaMm12
import Derived.Test.YtdclpbdmdpakkaaMm9
section
namespace Go.Pch

/-- A change: Key, Old, New. -/
abbrev Change := Int × Int × Int

/-- Changes rise behind 'last', within their bounds, and each changes something. -/
def fineC : Int → List Change → Bool
  | _, [] => true
  | last, x :: d => !(decide (x.1 ≤ last) || decide (99 < x.1) || !valB x.2.1 || !valB x.2.2 || decide (x.2.1 = x.2.2)) && fineC x.1 d
theorem fineC_cons {last : Int} {x : Change} {d : List Change} : fineC last (x :: d) = true ↔ (last < x.1 ∧ x.1 ≤ 99 ∧ valB x.2.1 = true ∧ valB x.2.2 = true ∧ x.2.1 ≠ x.2.2) ∧ fineC x.1 d = true := by
  simp only [fineC, Bool.and_eq_true, Bool.not_eq_true', Bool.or_eq_false_iff, decide_eq_false_iff_not, Bool.not_eq_false']
  constructor
  · rintro ⟨⟨⟨⟨⟨h1, h2⟩, h3⟩, h4⟩, h5⟩, h6⟩; exact ⟨⟨by omega, by omega, h3, h4, h5⟩, h6⟩
  · rintro ⟨⟨h1, h2, h3, h4, h5⟩, h6⟩; exact ⟨⟨⟨⟨⟨by omega, by omega⟩, h3⟩, h4⟩, h5⟩, h6⟩
theorem fineC_go {m : Int} {d : List Change} {k : Nat} (hk : k < d.length) (h : (m < d[k].1 ∧ d[k].1 ≤ 99) ∧ valB d[k].2.1 = true ∧ valB d[k].2.2 = true ∧ d[k].2.1 ≠ d[k].2.2) : fineC m (d.drop k) = fineC d[k].1 (d.drop (k + 1)) := by
  rw [List.drop_eq_getElem_cons hk, Bool.eq_iff_iff, fineC_cons]
  exact ⟨fun h => h.2, fun g => ⟨⟨h.1.1, h.1.2, h.2.1, h.2.2.1, h.2.2.2⟩, g⟩⟩
theorem fineC_stop {m : Int} {d : List Change} {k : Nat} (hk : k < d.length) (h : d[k].1 ≤ m ∨ 99 < d[k].1 ∨ valB d[k].2.1 = false ∨ valB d[k].2.2 = false ∨ d[k].2.1 = d[k].2.2) : fineC m (d.drop k) = false := by
  rw [List.drop_eq_getElem_cons hk, Bool.eq_false_iff]
  intro g
  have := (fineC_cons.1 g).1
  rcases h with h | h | h | h | h
  · omega
  · omega
  · rw [h] at this; exact absurd this.2.2.1 (by simp)
  · rw [h] at this; exact absurd this.2.2.2.1 (by simp)
  · exact this.2.2.2.2 h
theorem fineC_end {m : Int} {d : List Change} {k : Nat} (hk : ¬ k < d.length) : fineC m (d.drop k) = true := by
  rw [List.drop_of_length_le (by omega)]; rfl
theorem fineC_weaken {a b : Int} {d : List Change} (h : fineC b d = true) (hab : a ≤ b) : fineC a d = true := by
  cases d with
  | nil => rfl
  | cons x d =>
    rw [fineC_cons] at h ⊢
    exact ⟨⟨by omega, h.1.2⟩, h.2⟩
theorem fineC_all {m : Int} : ∀ {d : List Change}, fineC m d = true → ∀ x ∈ d, m < x.1 ∧ x.1 ≤ 99 ∧ valB x.2.1 = true ∧ valB x.2.2 = true ∧ x.2.1 ≠ x.2.2
  | [], _, x, hx => by cases hx
  | y :: d, h, x, hx => by
    rw [fineC_cons] at h
    rcases List.mem_cons.1 hx with rfl | hx
    · exact h.1
    · have := fineC_all h.2 x hx
      exact ⟨by omega, this.2⟩
theorem fineC_len {m : Int} : ∀ {d : List Change}, fineC m d = true → m ≤ 99 → (d.length : Int) ≤ 99 - m
  | [], _, h => by simp; omega
  | x :: d, h, _ => by
    rw [fineC_cons] at h
    have := fineC_len h.2 h.1.2.1
    rw [List.length_cons]
    omega

/-! ### Differences -/
/-- What differs between two tables, from key k on (n keys). -/
def diffFrom (x y : Int → Int) : Nat → Int → List Change
  | 0, _ => []
  | n + 1, k => if x k = y k then diffFrom x y n (k + 1) else (k, x k, y k) :: diffFrom x y n (k + 1)
/-- F1: what differs between two tables. -/
def diffL (x y : Int → Int) : List Change := diffFrom x y 100 0
theorem diff_congr {x y x' y' : Int → Int} : ∀ (n : Nat) (k : Int), (∀ j, k ≤ j → j < k + n → (x j = y j ↔ x' j = y' j) ∧ (x j ≠ y j → x j = x' j ∧ y j = y' j)) → diffFrom x y n k = diffFrom x' y' n k
  | 0, _, _ => rfl
  | n + 1, k, h => by
    have h0 := h k (Int.le_refl _) (by omega)
    have ih := diff_congr n (k + 1) fun j h1 h2 => h j (by omega) (by omega)
    rw [diffFrom, diffFrom, ih]
    by_cases he : x k = y k
    · rw [if_pos he, if_pos (h0.1.1 he)]
    · rw [if_neg he, if_neg (fun e => he (h0.1.2 e)), (h0.2 he).1, (h0.2 he).2]

/-- Between right rows: what differs, by going through both. -/
def betw : List Row → List Row → List Change
  | [], [] => []
  | r :: a, [] => (r.1, r.2, -1) :: betw a []
  | [], q :: b => (q.1, -1, q.2) :: betw [] b
  | r :: a, q :: b =>
    if r.1 < q.1 then (r.1, r.2, -1) :: betw a (q :: b)
    else if q.1 < r.1 then (q.1, -1, q.2) :: betw (r :: a) b
    else if r.2 = q.2 then betw a b else (r.1, r.2, q.2) :: betw a b
termination_by a b => a.length + b.length

theorem betw_nil : betw [] [] = [] := by rw [betw]
theorem betw_left {r : Row} {a b : List Row} (h : b = [] ∨ ∃ q c, b = q :: c ∧ r.1 < q.1) : betw (r :: a) b = (r.1, r.2, -1) :: betw a b := by
  rcases h with rfl | ⟨q, c, rfl, h⟩
  · rw [betw]
  · rw [betw, if_pos h]
theorem betw_right {q : Row} {a b : List Row} (h : a = [] ∨ ∃ r c, a = r :: c ∧ q.1 < r.1) : betw a (q :: b) = (q.1, -1, q.2) :: betw a b := by
  rcases h with rfl | ⟨r, c, rfl, h⟩
  · rw [betw]
  · rw [betw, if_neg (by omega), if_pos h]
theorem betw_both {r q : Row} {a b : List Row} (h : r.1 = q.1) : betw (r :: a) (q :: b) = if r.2 = q.2 then betw a b else (r.1, r.2, q.2) :: betw a b := by
  rw [betw, if_neg (by omega), if_neg (by omega)]

theorem betw_len : ∀ (a b : List Row), (betw a b).length ≤ a.length + b.length
  | [], [] => by rw [betw_nil]; simp
  | r :: a, [] => by
    have := betw_len a []
    rw [betw_left (.inl rfl), List.length_cons, List.length_cons]
    omega
  | [], q :: b => by
    have := betw_len [] b
    rw [betw_right (.inl rfl), List.length_cons, List.length_cons]
    omega
  | r :: a, q :: b => by
    rw [betw]
    split
    · have := betw_len a (q :: b)
      simp only [List.length_cons] at this ⊢
      omega
    · split
      · have := betw_len (r :: a) b
        simp only [List.length_cons] at this ⊢
        omega
      · have := betw_len a b
        split <;> simp only [List.length_cons] <;> omega
termination_by a b => a.length + b.length

theorem valueOf_head {r : Row} {a : List Row} : valueOf (r :: a) r.1 = r.2 := by rw [valueOf, if_pos rfl]
theorem valueOf_tail {r : Row} {a : List Row} {k : Int} (h : r.1 ≠ k) : valueOf (r :: a) k = valueOf a k := by rw [valueOf, if_neg h]

theorem diff_betw : ∀ (n : Nat) (k : Int) (a b : List Row), k + n = 100 → riseB (k - 1) a = true → riseB (k - 1) b = true → diffFrom (valueOf a) (valueOf b) n k = betw a b
  | 0, k, a, b, hk, ha, hb => by
    have ea : a = [] := by
      cases a with
      | nil => rfl
      | cons r a => rw [riseB_cons] at ha; omega
    have eb : b = [] := by
      cases b with
      | nil => rfl
      | cons r b => rw [riseB_cons] at hb; omega
    subst ea eb
    rw [betw_nil]; rfl
  | n + 1, k, a, b, hk, ha, hb => by
    -- without the rows of key k
    have strip : ∀ c : List Row, riseB (k - 1) c = true → (riseB k c = true ∧ valueOf c k = -1) ∨ ∃ r c', c = r :: c' ∧ r.1 = k ∧ riseB k c' = true ∧ 0 ≤ r.2 := by
      intro c hc
      cases c with
      | nil => exact .inl ⟨rfl, rfl⟩
      | cons r c =>
        rw [riseB_cons] at hc
        by_cases hr : r.1 = k
        · exact .inr ⟨r, c, rfl, hr, by rw [← hr]; exact hc.2, hc.1.2.2.1⟩
        · have : riseB k (r :: c) = true := by rw [riseB_cons]; exact ⟨⟨by omega, hc.1.2⟩, hc.2⟩
          exact .inl ⟨this, valueOf_low this (Int.le_refl _)⟩
    have hd : ∀ c : List Row, riseB k c = true → c = [] ∨ ∃ q c', c = q :: c' ∧ k < q.1 := by
      intro c hc
      cases c with
      | nil => exact .inl rfl
      | cons q c => rw [riseB_cons] at hc; exact .inr ⟨q, c, rfl, hc.1.1⟩
    have e1 : ∀ c, riseB k c = true → riseB (k + 1 - 1) c = true := fun c h => by rw [show k + 1 - 1 = k by omega]; exact h
    rw [diffFrom]
    rcases strip a ha with ⟨a1, a2⟩ | ⟨r, a', rfl, a1, a2, a3⟩
    · rcases strip b hb with ⟨b1, b2⟩ | ⟨q, b', rfl, b1, b2, b3⟩
      · rw [a2, b2, if_pos rfl]
        exact diff_betw n (k + 1) a b (by omega) (e1 a a1) (e1 b b1)
      · have hq : valueOf (q :: b') k = q.2 := by rw [← b1]; exact valueOf_head
        rw [a2, hq, if_neg (by omega)]
        have hb2 : betw a (q :: b') = (q.1, -1, q.2) :: betw a b' := betw_right (by
          rcases hd a a1 with rfl | ⟨r, c, rfl, h⟩
          · exact .inl rfl
          · exact .inr ⟨r, c, rfl, by omega⟩)
        rw [hb2, b1, ← diff_betw n (k + 1) a b' (by omega) (e1 a a1) (e1 b' b2)]
        congr 1
        refine diff_congr n (k + 1) fun j h1 _ => ?_
        rw [valueOf_tail (r := q) (by omega)]
        exact ⟨Iff.rfl, fun _ => ⟨rfl, rfl⟩⟩
    · have hr : valueOf (r :: a') k = r.2 := by rw [← a1]; exact valueOf_head
      rcases strip b hb with ⟨b1, b2⟩ | ⟨q, b', rfl, b1, b2, b3⟩
      · rw [hr, b2, if_neg (by omega)]
        have hb2 : betw (r :: a') b = (r.1, r.2, -1) :: betw a' b := betw_left (by
          rcases hd b b1 with rfl | ⟨q, c, rfl, h⟩
          · exact .inl rfl
          · exact .inr ⟨q, c, rfl, by omega⟩)
        rw [hb2, a1, ← diff_betw n (k + 1) a' b (by omega) (e1 a' a2) (e1 b b1)]
        congr 1
        refine diff_congr n (k + 1) fun j h1 _ => ?_
        rw [valueOf_tail (r := r) (by omega)]
        exact ⟨Iff.rfl, fun _ => ⟨rfl, rfl⟩⟩
      · have hq : valueOf (q :: b') k = q.2 := by rw [← b1]; exact valueOf_head
        have hrest : diffFrom (valueOf (r :: a')) (valueOf (q :: b')) n (k + 1) = betw a' b' := by
          rw [← diff_betw n (k + 1) a' b' (by omega) (e1 a' a2) (e1 b' b2)]
          refine diff_congr n (k + 1) fun j h1 _ => ?_
          rw [valueOf_tail (r := r) (by omega), valueOf_tail (r := q) (by omega)]
          exact ⟨Iff.rfl, fun _ => ⟨rfl, rfl⟩⟩
        rw [hr, hq, hrest, betw_both (by omega), a1]
/-- Between is what differs. -/
theorem betw_diff {a b : List Row} (ha : riseB (-1) a = true) (hb : riseB (-1) b = true) : betw a b = diffL (valueOf a) (valueOf b) := (diff_betw 100 0 a b (by omega) ha hb).symm

theorem diff_fine (x y : Int → Int) (hx : ∀ k, -1 ≤ x k ∧ x k ≤ 996) (hy : ∀ k, -1 ≤ y k ∧ y k ≤ 996) : ∀ (n : Nat) (k : Int), k + n ≤ 100 → fineC (k - 1) (diffFrom x y n k) = true
  | 0, _, _ => rfl
  | n + 1, k, h => by
    have ih := diff_fine x y hx hy n (k + 1) (by omega)
    rw [show k + 1 - 1 = k by omega] at ih
    rw [diffFrom]
    by_cases he : x k = y k
    · rw [if_pos he]; exact fineC_weaken ih (by omega)
    · rw [if_neg he, fineC_cons]
      have a := hx k
      have b := hy k
      exact ⟨⟨by show k - 1 < k; omega, by show k ≤ 99; omega, by simp [valB]; omega, by simp [valB]; omega, he⟩, ih⟩
theorem diffL_fine {x y : Int → Int} (hx : ∀ k, -1 ≤ x k ∧ x k ≤ 996) (hy : ∀ k, -1 ≤ y k ∧ y k ≤ 996) : fineC (-1) (diffL x y) = true := diff_fine x y hx hy 100 0 (by omega)
theorem mem_diff {x y : Int → Int} {c : Change} : ∀ (n : Nat) (k : Int), c ∈ diffFrom x y n k ↔ (k ≤ c.1 ∧ c.1 < k + n ∧ c.2.1 = x c.1 ∧ c.2.2 = y c.1 ∧ x c.1 ≠ y c.1)
  | 0, k => by
    simp only [diffFrom, List.not_mem_nil, false_iff]
    rintro ⟨h1, h2, _⟩
    omega
  | n + 1, k => by
    have ih := mem_diff (x := x) (y := y) (c := c) n (k + 1)
    rw [diffFrom]
    by_cases he : x k = y k
    · rw [if_pos he, ih]
      constructor
      · rintro ⟨h1, h2, h3⟩; exact ⟨by omega, by omega, h3⟩
      · rintro ⟨h1, h2, h3, h4, h5⟩
        refine ⟨?_, by omega, h3, h4, h5⟩
        rcases Int.lt_or_eq_of_le h1 with h | h
        · omega
        · rw [← h] at h5; exact absurd he h5
    · rw [if_neg he, List.mem_cons, ih]
      constructor
      · rintro (rfl | ⟨h1, h2, h3⟩)
        · exact ⟨Int.le_refl _, by show k < k + _; omega, rfl, rfl, he⟩
        · exact ⟨by omega, by omega, h3⟩
      · rintro ⟨h1, h2, h3, h4, h5⟩
        rcases Int.lt_or_eq_of_le h1 with h | h
        · exact .inr ⟨by omega, by omega, h3, h4, h5⟩
        · left
          obtain ⟨c1, c2, c3⟩ := c
          simp only at h h3 h4
          subst h h3 h4
          rfl

/-! ### Patches -/
/-- Rows, with all changes done. -/
def setAll (l : List Row) (d : List Change) : List Row := d.foldl (fun m x => setL m x.1 x.2.2) l
theorem setAll_cons (l : List Row) (x : Change) (d : List Change) : setAll l (x :: d) = setAll (setL l x.1 x.2.2) d := rfl
theorem setAll_snoc (l : List Row) (d : List Change) (x : Change) : setAll l (d ++ [x]) = setL (setAll l d) x.1 x.2.2 := by simp [setAll]
theorem setAll_rise {last : Int} (h0 : -1 ≤ last) : ∀ {d : List Change} {l : List Row}, riseB (-1) l = true → fineC last d = true → riseB (-1) (setAll l d) = true
  | [], _, h, _ => h
  | x :: d, l, h, hd => by
    rw [fineC_cons] at hd
    have hv : -1 ≤ x.2.2 ∧ x.2.2 ≤ 996 := by have := hd.1.2.2.2.1; simpa [valB] using this
    show riseB (-1) (setAll (setL l x.1 x.2.2) d) = true
    exact setAll_rise (last := x.1) (by omega) (setL_rise h (by omega) hd.1.2.1 hv.1 hv.2) hd.2
theorem setAll_len (l : List Row) : ∀ (d : List Change), (setAll l d).length ≤ l.length + d.length := by
  intro d
  induction d generalizing l with
  | nil => exact Nat.le_refl _
  | cons x d ih =>
    have h1 := setL_len l x.1 x.2.2
    have h2 := ih (setL l x.1 x.2.2)
    rw [setAll_cons, List.length_cons]
    omega
/-- A key behind which no change is has what it had. -/
theorem setAll_other : ∀ {last : Int} {d : List Change} {l : List Row}, -1 ≤ last → riseB (-1) l = true → fineC last d = true → ∀ k, k ≤ last → valueOf (setAll l d) k = valueOf l k
  | _, [], _, _, _, _, _, _ => rfl
  | last, x :: d, l, h0, h, hd, k, hk => by
    rw [fineC_cons] at hd
    have hv : -1 ≤ x.2.2 ∧ x.2.2 ≤ 996 := by have := hd.1.2.2.2.1; simpa [valB] using this
    rw [setAll_cons, setAll_other (last := x.1) (by omega) (setL_rise h (by omega) hd.1.2.1 hv.1 hv.2) hd.2 k (by omega), setL_value h, if_neg (by omega)]
/-- What a key has behind all changes. -/
theorem setAll_value : ∀ {last : Int} {d : List Change} {l : List Row}, -1 ≤ last → riseB (-1) l = true → fineC last d = true → ∀ k, valueOf (setAll l d) k = match d.find? (fun x => decide (x.1 = k)) with | some x => x.2.2 | none => valueOf l k
  | _, [], _, _, _, _, _ => rfl
  | last, x :: d, l, h0, h, hd, k => by
    rw [fineC_cons] at hd
    have hv : -1 ≤ x.2.2 ∧ x.2.2 ≤ 996 := by have := hd.1.2.2.2.1; simpa [valB] using this
    have hs := setL_rise h (key := x.1) (val := x.2.2) (by omega) hd.1.2.1 hv.1 hv.2
    rw [setAll_cons, List.find?_cons]
    by_cases hk : x.1 = k
    · rw [setAll_other (last := x.1) (by omega) hs hd.2 k (by omega), setL_value h, if_pos hk.symm]
      simp [hk]
    · rw [setAll_value (last := x.1) (by omega) hs hd.2 k]
      simp only [hk, decide_false]
      cases d.find? (fun x => decide (x.1 = k)) with
      | some y => rfl
      | none => show valueOf (setL l x.1 x.2.2) k = valueOf l k; rw [setL_value h, if_neg (fun e => hk e.symm)]

/-- Do all changes speak of what is there? -/
def matchB (l : List Row) (d : List Change) : Bool := d.all fun x => decide (valueOf l x.1 = x.2.1)
/-- F1: Patch's and Back's answers. -/
def patchP (l : List Row) (d : List Change) : List Row × Int :=
  if rowsErr l = 0 then (if fineC (-1) d then (if matchB l d then (if 40 < (setAll l d).length then ([], 2) else (setAll l d, 0)) else ([], 7)) else ([], 1)) else ([], rowsErr l)
def swapC (x : Change) : Change := (x.1, x.2.2, x.2.1)
def backP (d : List Change) : List Change × Int := if fineC (-1) d then (d.map swapC, 0) else ([], 1)

end Go.Pch
end

section
namespace Go.Pch

/-- The first error of some rows. -/
def errL : List (List Row) → Int
  | [] => 0
  | l :: m => if rowsErr l = 0 then errL m else rowsErr l
theorem errL_go {X : List (List Row)} {k : Nat} {l : List Row} (h : X[k]? = some l) (hl : rowsErr l = 0) : errL (X.drop k) = errL (X.drop (k + 1)) := by
  obtain ⟨hk, rfl⟩ := List.getElem?_eq_some_iff.1 h
  rw [List.drop_eq_getElem_cons hk, errL, if_pos hl]
theorem errL_stop {X : List (List Row)} {k : Nat} {l : List Row} (h : X[k]? = some l) (hl : rowsErr l ≠ 0) : errL (X.drop k) = rowsErr l := by
  obtain ⟨hk, rfl⟩ := List.getElem?_eq_some_iff.1 h
  rw [List.drop_eq_getElem_cons hk, errL, if_neg hl]
theorem errL_three {a b c : List Row} (h : errL [a, b, c] = 0) : rowsErr a = 0 ∧ rowsErr b = 0 ∧ rowsErr c = 0 := by
  unfold errL at h
  split at h
  · rename_i ha
    unfold errL at h
    split at h
    · rename_i hb
      unfold errL at h
      split at h
      · rename_i hc
        exact ⟨ha, hb, hc⟩
      · exact absurd h (by assumption)
    · exact absurd h (by assumption)
  · exact absurd h (by assumption)

/-- G1: what a key has then. -/
def mergeT (x y z : Int → Int) (k : Int) : Int := if y k = z k then y k else if y k = x k then z k else y k
/-- G1: the keys that clash, from k on (n keys). -/
def clashFrom (x y z : Int → Int) : Nat → Int → List Int
  | 0, _ => []
  | n + 1, k => if y k ≠ z k ∧ y k ≠ x k ∧ z k ≠ x k then k :: clashFrom x y z n (k + 1) else clashFrom x y z n (k + 1)
def mergeL (base a b : List Row) : List Row := folded (mergeT (valueOf base) (valueOf a) (valueOf b))
def clashL (base a b : List Row) : List Int := clashFrom (valueOf base) (valueOf a) (valueOf b) 100 0
/-- G1: Merge's answer. -/
def mergeP (base a b : List Row) : List Row × List Int × Int :=
  if errL [base, a, b] = 0 then (if 40 < (mergeL base a b).length then ([], [], 2) else (mergeL base a b, clashL base a b, 0)) else ([], [], errL [base, a, b])

theorem mergeT_bounds {x y z : Int → Int} (hy : ∀ k, -1 ≤ y k ∧ y k ≤ 996) (hz : ∀ k, -1 ≤ z k ∧ z k ≤ 996) (k : Int) : -1 ≤ mergeT x y z k ∧ mergeT x y z k ≤ 996 := by
  unfold mergeT
  have := hy k; have := hz k
  split
  · assumption
  · split <;> assumption
theorem mergeL_rise {base a b : List Row} (ha : riseB (-1) a = true) (hb : riseB (-1) b = true) : riseB (-1) (mergeL base a b) = true :=
  folded_rise _ (mergeT_bounds (valueOf_bounds ha) (valueOf_bounds hb))
theorem clash_len (x y z : Int → Int) : ∀ (n : Nat) (k : Int), (clashFrom x y z n k).length ≤ n
  | 0, _ => Nat.le_refl _
  | n + 1, k => by
    have := clash_len x y z n (k + 1)
    rw [clashFrom]
    split
    · simp; omega
    · omega
theorem mem_clash {x y z : Int → Int} {j : Int} : ∀ (n : Nat) (k : Int), j ∈ clashFrom x y z n k ↔ k ≤ j ∧ j < k + n ∧ y j ≠ z j ∧ y j ≠ x j ∧ z j ≠ x j
  | 0, k => by simp [clashFrom]; omega
  | n + 1, k => by
    have ih := mem_clash (x := x) (y := y) (z := z) (j := j) n (k + 1)
    rw [clashFrom]
    by_cases h : y k ≠ z k ∧ y k ≠ x k ∧ z k ≠ x k
    · rw [if_pos h, List.mem_cons, ih]
      constructor
      · rintro (rfl | ⟨h1, h2, h3⟩)
        · exact ⟨Int.le_refl _, by omega, h⟩
        · exact ⟨by omega, by omega, h3⟩
      · rintro ⟨h1, h2, h3⟩
        by_cases hj : j = k
        · exact .inl hj
        · exact .inr ⟨by omega, by omega, h3⟩
    · rw [if_neg h, ih]
      constructor
      · rintro ⟨h1, h2, h3⟩; exact ⟨by omega, by omega, h3⟩
      · rintro ⟨h1, h2, h3⟩
        by_cases hj : j = k
        · subst hj; exact absurd h3 h
        · exact ⟨by omega, by omega, h3⟩

/-! ### The program's way -/
/-- What one has changed: a map. -/
def mapOf (d : List Change) : Int → Option Int := d.foldl (fun f c => fun j => if j = c.1 then some (c.2.2 + 2) else f j) fun _ => none
theorem mapOf_snoc (d : List Change) (c : Change) : mapOf (d ++ [c]) = fun j => if j = c.1 then some (c.2.2 + 2) else mapOf d j := by
  rw [mapOf, List.foldl_append]; rfl
theorem mapOf_fold : ∀ (d : List Change) (f : Int → Option Int) (k : Int),
    (∀ v, d.foldl (fun f c => fun j => if j = c.1 then some (c.2.2 + 2) else f j) f k = some v → f k = some v ∨ ∃ c ∈ d, c.1 = k ∧ v = c.2.2 + 2) ∧
    (d.foldl (fun f c => fun j => if j = c.1 then some (c.2.2 + 2) else f j) f k = none → f k = none ∧ ∀ c ∈ d, c.1 ≠ k)
  | [], f, k => ⟨fun v h => .inl h, fun h => ⟨h, by simp⟩⟩
  | c :: d, f, k => by
    obtain ⟨h1, h2⟩ := mapOf_fold d (fun j => if j = c.1 then some (c.2.2 + 2) else f j) k
    rw [List.foldl_cons]
    refine ⟨fun v h => ?_, fun h => ?_⟩
    · rcases h1 v h with h | ⟨e, he, h⟩
      · by_cases hk : k = c.1
        · rw [if_pos hk] at h
          exact .inr ⟨c, by simp, hk.symm, (Option.some.inj h).symm⟩
        · rw [if_neg hk] at h
          exact .inl h
      · exact .inr ⟨e, by simp [he], h⟩
    · obtain ⟨h3, h4⟩ := h2 h
      by_cases hk : k = c.1
      · rw [if_pos hk] at h3; cases h3
      · rw [if_neg hk] at h3
        exact ⟨h3, fun e he => by rcases List.mem_cons.1 he with rfl | he; exact fun e => hk e.symm; exact h4 e he⟩
theorem mapOf_diff {x y : Int → Int} {k : Int} (h0 : 0 ≤ k) (h1 : k ≤ 99) : mapOf (diffL x y) k = if x k = y k then none else some (y k + 2) := by
  obtain ⟨h2, h3⟩ := mapOf_fold (diffL x y) (fun _ => none) k
  change (∀ v, mapOf (diffL x y) k = some v → _) at h2
  change (mapOf (diffL x y) k = none → _) at h3
  cases hm : mapOf (diffL x y) k with
  | none =>
    by_cases he : x k = y k
    · rw [if_pos he]
    · exact absurd rfl ((h3 hm).2 (k, x k, y k) ((mem_diff 100 0).2 ⟨h0, by show k < _; omega, rfl, rfl, he⟩))
  | some v =>
    rcases h2 v hm with h | ⟨c, hc, rfl, rfl⟩
    · cases h
    · obtain ⟨_, _, _, e2, e3⟩ := (mem_diff 100 0).1 hc
      rw [if_neg e3, e2]

/-- A change of the other's that is taken over. -/
def freeB (f : Int → Option Int) (c : Change) : Bool := decide ((f c.1).getD 0 = 0)
/-- A change of the other's that clashes. -/
def clashB (f : Int → Option Int) (c : Change) : Bool := !decide ((f c.1).getD 0 = 0) && !decide ((f c.1).getD 0 = c.2.2 + 2)

theorem fineC_filter (p : Change → Bool) : ∀ {m : Int} {d : List Change}, fineC m d = true → fineC m (d.filter p) = true
  | _, [], _ => rfl
  | m, x :: d, h => by
    rw [fineC_cons] at h
    have ih := fineC_filter p h.2
    rw [List.filter_cons]
    split
    · rw [fineC_cons]; exact ⟨h.1, ih⟩
    · exact fineC_weaken ih (by omega)

theorem merge_rows {base a b : List Row} (h0 : riseB (-1) base = true) (ha : riseB (-1) a = true) (hb : riseB (-1) b = true) {f : Int → Option Int} (hf : f = mapOf (betw base a)) :
    setAll a ((betw base b).filter (freeB f)) = mergeL base a b := by
  have hd := diffL_fine (valueOf_bounds h0) (valueOf_bounds hb)
  rw [betw_diff h0 ha] at hf
  rw [betw_diff h0 hb]
  have hff := fineC_filter (freeB f) hd
  refine rows_ext (setAll_rise (by omega) ha hff) (mergeL_rise ha hb) fun k h1 h2 => ?_
  have hk0 : 0 ≤ k := by omega
  have hfk : f k = if valueOf base k = valueOf a k then none else some (valueOf a k + 2) := by rw [hf]; exact mapOf_diff hk0 h2
  have hya := valueOf_bounds ha k
  rw [setAll_value (by omega) ha hff, mergeL, folded_value _ k hk0 h2]
  cases hs : ((diffL (valueOf base) (valueOf b)).filter (freeB f)).find? (fun x => decide (x.1 = k)) with
  | some c =>
    have hc1 := List.find?_some hs
    have hc2 := List.mem_of_find?_eq_some hs
    obtain ⟨hc3, hc4⟩ := List.mem_filter.1 hc2
    obtain ⟨_, _, e1, e2, e3⟩ := (mem_diff 100 0).1 hc3
    have hc1' : c.1 = k := by simpa using hc1
    rw [hc1'] at e1 e2 e3
    simp only [freeB, decide_eq_true_eq, hc1', hfk] at hc4
    have hxy : valueOf base k = valueOf a k := by
      by_cases h : valueOf base k = valueOf a k
      · exact h
      · rw [if_neg h] at hc4; simp at hc4; omega
    show c.2.2 = _
    rw [e2, mergeT, if_neg (by omega), if_pos hxy.symm]
  | none =>
    have hno := List.find?_eq_none.1 hs
    show valueOf a k = _
    unfold mergeT
    by_cases h3 : valueOf a k = valueOf b k
    · rw [if_pos h3]
    · rw [if_neg h3]
      by_cases h4 : valueOf a k = valueOf base k
      · have hm : (k, valueOf base k, valueOf b k) ∈ (diffL (valueOf base) (valueOf b)).filter (freeB f) := by
          refine List.mem_filter.2 ⟨(mem_diff 100 0).2 ⟨hk0, by show k < _; omega, rfl, rfl, by show valueOf base k ≠ valueOf b k; omega⟩, ?_⟩
          simp only [freeB, hfk, if_pos h4.symm]
          rfl
        exact absurd (hno _ hm) (by simp)
      · rw [if_neg h4]
theorem merge_clash {base a b : List Row} (h0 : riseB (-1) base = true) (ha : riseB (-1) a = true) (hb : riseB (-1) b = true) {f : Int → Option Int} (hf : f = mapOf (betw base a)) :
    ((betw base b).filter (clashB f)).map (·.1) = clashL base a b := by
  rw [betw_diff h0 ha] at hf
  rw [betw_diff h0 hb]
  have go : ∀ (n : Nat) (k : Int), 0 ≤ k → k + n ≤ 100 → ((diffFrom (valueOf base) (valueOf b) n k).filter (clashB f)).map (·.1) = clashFrom (valueOf base) (valueOf a) (valueOf b) n k := by
    intro n
    induction n with
    | zero => intros; rfl
    | succ n ih =>
      intro k hk0 hkn
      have ih := ih (k + 1) (by omega) (by omega)
      have hfk : f k = if valueOf base k = valueOf a k then none else some (valueOf a k + 2) := by rw [hf]; exact mapOf_diff hk0 (by omega)
      have hya := valueOf_bounds ha k
      rw [diffFrom, clashFrom]
      by_cases h1 : valueOf base k = valueOf b k
      · rw [if_pos h1, if_neg (by omega), ih]
      · rw [if_neg h1, List.filter_cons]
        by_cases h2 : valueOf base k = valueOf a k
        · have : clashB f (k, valueOf base k, valueOf b k) = false := by simp only [clashB, hfk, if_pos h2]; rfl
          rw [this, if_neg (by simp), if_neg (by omega), ih]
        · by_cases h3 : valueOf a k = valueOf b k
          · have : clashB f (k, valueOf base k, valueOf b k) = false := by simp [clashB, hfk, h3, h1]
            rw [this, if_neg (by simp), if_neg (by omega), ih]
          · have : clashB f (k, valueOf base k, valueOf b k) = true := by
              simp only [clashB, hfk, if_neg h2, Option.getD_some, Bool.and_eq_true, Bool.not_eq_true', decide_eq_false_iff_not]
              omega
            rw [this, if_pos rfl, if_pos (by omega), List.map_cons, ih]
  exact go 100 0 (by omega) (by omega)

end Go.Pch
end

section
namespace Go.Pch
open Go.RowKit Go.Proofs

/-- No repo: what comes with an error. -/
def noRepo : Repo := ([], [])
/-- A head is moved. -/
def moved (hs : List Head) (k : Nat) (n : Int) : List Head := hs.set k ((hs[k]?.getD (ByteArray.empty, 0)).1, n)
/-- A commit more, at which a head is. -/
def grown (r : Repo) (k : Nat) (rows : List Row) (ps : List Int) : Repo := (r.1 ++ [(rows, ps)], moved r.2 k r.1.length)
/-- The rows of a commit. -/
def rowsN (l : List Commit) (n : Nat) : List Row := (l[n]?.getD ([], [])).1
/-- J1: Put's answer, at a head's commit. -/
def putN (r : Repo) (s : ByteArray) (d : List Change) (n : Nat) : Repo × Int :=
  if fineC (-1) d = true then (if d.length = 0 then (noRepo, 9) else if r.1.length = 14 then (noRepo, 2) else if (patchP (rowsN r.1 n) d).2 = 0 then (grown r (hdN r.2 s) (patchP (rowsN r.1 n) d).1 [(n : Int)], 0) else (noRepo, (patchP (rowsN r.1 n) d).2)) else (noRepo, 1)
/-- J1: Put's answer. -/
def jPut (r : Repo) (s : ByteArray) (d : List Change) : Repo × Int := if (headP r s).2 = 0 then putN r s d (headP r s).1.toNat else (noRepo, (headP r s).2)
/-- J1: Branch's answer. -/
def branchN (r : Repo) (s : ByteArray) (n : Int) : Repo × Int :=
  if nameB s = true then (if hdHas r.2 s = true then (noRepo, 6) else if r.2.length = 4 then (noRepo, 2) else ((r.1, r.2.take (hdN r.2 s) ++ (s, n) :: r.2.drop (hdN r.2 s)), 0)) else (noRepo, 4)
def jBranch (r : Repo) (s f : ByteArray) : Repo × Int := if (headP r f).2 = 0 then branchN r s (headP r f).1 else (noRepo, (headP r f).2)
/-- J1: Drop's answer. -/
def jDrop (r : Repo) (s : ByteArray) : Repo × Int :=
  if (headP r s).2 = 0 then (if r.2.length = 1 then (noRepo, 1) else ((r.1, r.2.take (hdN r.2 s) ++ r.2.drop (hdN r.2 s + 1)), 0)) else (noRepo, (headP r s).2)
/-- Behind what both have been merged. -/
def baseN (l : List Commit) (a b : Nat) : List Row := match (basesL l a b).getLast? with
  | some k => rowsN l k.toNat
  | none => []
/-- J2: Merge's answer, at two commits. -/
def joinN (r : Repo) (s : ByteArray) (a b : Nat) : Repo × List Int × Int :=
  if ab r.1 a b = true then (noRepo, [], 9) else if ab r.1 b a = true then ((r.1, moved r.2 (hdN r.2 s) b), [], 0) else if r.1.length = 14 then (noRepo, [], 2) else
  if (mergeP (baseN r.1 a b) (rowsN r.1 a) (rowsN r.1 b)).2.2 = 0 then
    (if (mergeP (baseN r.1 a b) (rowsN r.1 a) (rowsN r.1 b)).2.1.length = 0 then (grown r (hdN r.2 s) (mergeP (baseN r.1 a b) (rowsN r.1 a) (rowsN r.1 b)).1 [min (a : Int) b, max (a : Int) b], [], 0)
     else (noRepo, (mergeP (baseN r.1 a b) (rowsN r.1 a) (rowsN r.1 b)).2.1, 7))
  else (noRepo, [], (mergeP (baseN r.1 a b) (rowsN r.1 a) (rowsN r.1 b)).2.2)
/-- J2: Merge's answer. -/
def jJoin (r : Repo) (s f : ByteArray) : Repo × List Int × Int :=
  if (headP r s).2 = 0 then (if (headP r f).2 = 0 then joinN r s (headP r s).1.toNat (headP r f).1.toNat else (noRepo, [], (headP r f).2)) else (noRepo, [], (headP r s).2)

theorem jPut_bad {r : Repo} {s : ByteArray} {d : List Change} (h : (headP r s).2 ≠ 0) : jPut r s d = (noRepo, (headP r s).2) := by rw [jPut, if_neg h]
theorem jPut_at {r : Repo} {s : ByteArray} {d : List Change} {n : Nat} (h : headP r s = ((n : Int), 0)) : jPut r s d = putN r s d n := by rw [jPut, h]; simp
theorem jBranch_bad {r : Repo} {s f : ByteArray} (h : (headP r f).2 ≠ 0) : jBranch r s f = (noRepo, (headP r f).2) := by rw [jBranch, if_neg h]
theorem jBranch_at {r : Repo} {s f : ByteArray} {n : Int} (h : headP r f = (n, 0)) : jBranch r s f = branchN r s n := by rw [jBranch, h]; simp
theorem jDrop_bad {r : Repo} {s : ByteArray} (h : (headP r s).2 ≠ 0) : jDrop r s = (noRepo, (headP r s).2) := by rw [jDrop, if_neg h]
theorem jJoin_bad {r : Repo} {s f : ByteArray} (h : (headP r s).2 ≠ 0) : jJoin r s f = (noRepo, [], (headP r s).2) := by rw [jJoin, if_neg h]
theorem jJoin_bad2 {r : Repo} {s f : ByteArray} {a : Int} (h : headP r s = (a, 0)) (g : (headP r f).2 ≠ 0) : jJoin r s f = (noRepo, [], (headP r f).2) := by rw [jJoin, h]; simp [g]
theorem jJoin_at {r : Repo} {s f : ByteArray} {a b : Nat} (h : headP r s = ((a : Int), 0)) (g : headP r f = ((b : Int), 0)) : jJoin r s f = joinN r s a b := by rw [jJoin, h, g]; simp
theorem rowsN_is {l : List Commit} {n : Nat} {c : Commit} (h : l[n]? = some c) : rowsN l n = c.1 := by rw [rowsN, h]; rfl
theorem moved_is {hs : List Head} {k : Nat} {x : Head} (h : hs[k]? = some x) (n : Int) : moved hs k n = hs.set k (x.1, n) := by rw [moved, h]; rfl
theorem moved_len (hs : List Head) (k : Nat) (n : Int) : (moved hs k n).length = hs.length := by rw [moved, List.length_set]
/-- Heads that rise rise, if there are more commits, too. -/
theorem headsRise_more {n m : Nat} (hnm : n ≤ m) : ∀ {last : List UInt8} {hs : List Head}, headsRise n last hs = true → headsRise m last hs = true
  | _, [], _ => rfl
  | last, h :: hs, hr => by
    simp only [headsRise, Bool.and_eq_true, decide_eq_true_eq] at hr ⊢
    exact ⟨⟨hr.1.1, hr.1.2.1, by omega⟩, headsRise_more hnm hr.2⟩

/-- What open says of names. -/
def openE (r : Repo) : List ByteArray → Int
  | [] => 0
  | s :: l => if (headP r s).2 = 0 then openE r l else (headP r s).2
theorem openE_one {r : Repo} {s : ByteArray} : openE r [s] = (headP r s).2 := by
  rw [openE]; split <;> simp_all [openE]
theorem openE_two {r : Repo} {s f : ByteArray} : openE r [s, f] = if (headP r s).2 = 0 then (headP r f).2 else (headP r s).2 := by
  rw [openE, openE_one]

end Go.Pch
end
