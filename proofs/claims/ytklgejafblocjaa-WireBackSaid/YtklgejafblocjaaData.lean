/- Plain words of pleach on lists (chapters 1 and 2): what rows are right, what a key has, chunks; no program is named here. -/
namespace Go.Pch

/-- A row: Key, Val. -/
abbrev Row := Int × Int

/-- May it be a key? -/
def keyB (k : Int) : Bool := decide (0 ≤ k) && decide (k ≤ 99)
/-- May it be a value, or None? -/
def valB (v : Int) : Bool := decide (-1 ≤ v) && decide (v ≤ 996)

/-- Rows rise behind 'last', within their bounds. -/
def riseB : Int → List Row → Bool
  | _, [] => true
  | last, r :: l => !(decide (r.1 ≤ last) || decide (99 < r.1) || decide (r.2 < 0) || decide (996 < r.2)) && riseB r.1 l
/-- A1. -/
def rowsErr (l : List Row) : Int := if 40 < l.length then 2 else if riseB (-1) l then 0 else 1

theorem riseB_cons {last : Int} {r : Row} {l : List Row} : riseB last (r :: l) = true ↔ (last < r.1 ∧ r.1 ≤ 99 ∧ 0 ≤ r.2 ∧ r.2 ≤ 996) ∧ riseB r.1 l = true := by
  simp only [riseB, Bool.and_eq_true, Bool.not_eq_true', Bool.or_eq_false_iff, decide_eq_false_iff_not]
  constructor
  · rintro ⟨⟨⟨⟨h1, h2⟩, h3⟩, h4⟩, h5⟩; exact ⟨⟨by omega, by omega, by omega, by omega⟩, h5⟩
  · rintro ⟨⟨h1, h2, h3, h4⟩, h5⟩; exact ⟨⟨⟨⟨by omega, by omega⟩, by omega⟩, by omega⟩, h5⟩

theorem riseB_weaken {a b : Int} {l : List Row} (h : riseB b l = true) (hab : a ≤ b) : riseB a l = true := by
  cases l with
  | nil => rfl
  | cons r l =>
    rw [riseB_cons] at h ⊢
    exact ⟨⟨by omega, h.1.2⟩, h.2⟩

theorem rise_go {m : Int} {l : List Row} {k : Nat} (hk : k < l.length) (h : (m < l[k].1 ∧ l[k].1 ≤ 99) ∧ 0 ≤ l[k].2 ∧ l[k].2 ≤ 996) : riseB m (l.drop k) = riseB l[k].1 (l.drop (k + 1)) := by
  rw [List.drop_eq_getElem_cons hk, Bool.eq_iff_iff, riseB_cons]
  exact ⟨fun h => h.2, fun g => ⟨⟨h.1.1, h.1.2, h.2.1, h.2.2⟩, g⟩⟩
theorem rise_stop {m : Int} {l : List Row} {k : Nat} (hk : k < l.length) (h : l[k].1 ≤ m ∨ 99 < l[k].1 ∨ l[k].2 < 0 ∨ 996 < l[k].2) : riseB m (l.drop k) = false := by
  rw [List.drop_eq_getElem_cons hk, Bool.eq_false_iff]
  intro g
  have := (riseB_cons.1 g).1
  omega
theorem rise_end {m : Int} {l : List Row} {k : Nat} (hk : ¬ k < l.length) : riseB m (l.drop k) = true := by
  rw [List.drop_of_length_le (by omega)]; rfl
theorem rowsErr_many {l : List Row} (h : 40 < l.length) : rowsErr l = 2 := by rw [rowsErr, if_pos h]
theorem rowsErr_form {l : List Row} (h : l.length ≤ 40) {m : Int} {k : Nat} (e : riseB (-1) l = riseB m (l.drop k)) (b : riseB m (l.drop k) = false) : rowsErr l = 1 := by
  rw [rowsErr, if_neg (by omega), e, b]; rfl
theorem rowsErr_ok {l : List Row} (h : l.length ≤ 40) {m : Int} {k : Nat} (e : riseB (-1) l = riseB m (l.drop k)) (b : riseB m (l.drop k) = true) : rowsErr l = 0 := by
  rw [rowsErr, if_neg (by omega), e, b]; rfl

/-- What a key has; -1: nothing. -/
def valueOf (l : List Row) (key : Int) : Int := match l with
  | [] => -1
  | r :: l => if r.1 = key then r.2 else valueOf l key

theorem valueOf_low {last : Int} {l : List Row} (h : riseB last l = true) {k : Int} (hk : k ≤ last) : valueOf l k = -1 := by
  induction l generalizing last with
  | nil => rfl
  | cons r l ih =>
    rw [riseB_cons] at h
    rw [valueOf, if_neg (by omega)]
    exact ih h.2 (by omega)

theorem valueOf_high {last : Int} {l : List Row} (h : riseB last l = true) {k : Int} (hk : 99 < k) : valueOf l k = -1 := by
  induction l generalizing last with
  | nil => rfl
  | cons r l ih =>
    rw [riseB_cons] at h
    rw [valueOf, if_neg (by omega)]
    exact ih h.2

theorem valueOf_bounds {last : Int} {l : List Row} (h : riseB last l = true) (k : Int) : -1 ≤ valueOf l k ∧ valueOf l k ≤ 996 := by
  induction l generalizing last with
  | nil => simp [valueOf]
  | cons r l ih =>
    rw [riseB_cons] at h
    rw [valueOf]
    split
    · omega
    · exact ih h.2

/-- Right rows are what their keys have. -/
theorem rows_ext {last : Int} {l m : List Row} (hl : riseB last l = true) (hm : riseB last m = true) (h : ∀ k, last < k → k ≤ 99 → valueOf l k = valueOf m k) : l = m := by
  induction l generalizing last m with
  | nil =>
    cases m with
    | nil => rfl
    | cons r m =>
      rw [riseB_cons] at hm
      have := h r.1 (by omega) (by omega)
      simp [valueOf] at this
      omega
  | cons q l ih =>
    cases m with
    | nil =>
      rw [riseB_cons] at hl
      have := h q.1 (by omega) (by omega)
      simp [valueOf] at this
      omega
    | cons r m =>
      rw [riseB_cons] at hl hm
      have hq : q.1 = r.1 := by
        rcases Int.lt_trichotomy q.1 r.1 with hlt | heq | hgt
        · have := h q.1 (by omega) (by omega)
          rw [valueOf, if_pos rfl, valueOf, if_neg (by omega), valueOf_low hm.2 (by omega)] at this
          omega
        · exact heq
        · have := h r.1 (by omega) (by omega)
          rw [valueOf, if_neg (by omega), valueOf_low hl.2 (by omega), valueOf, if_pos rfl] at this
          omega
      have hv : q.2 = r.2 := by
        have := h q.1 (by omega) (by omega)
        rwa [valueOf, if_pos rfl, valueOf, if_pos hq.symm] at this
      have hqr : q = r := Prod.ext hq hv
      subst hqr
      rw [ih hl.2 hm.2 (fun k hk hk' => ?_)]
      have := h k (by omega) hk'
      rwa [valueOf, if_neg (by omega), valueOf, if_neg (by omega)] at this

/-- The rows of a table, from key k on (n keys). -/
def foldFrom (x : Int → Int) : Nat → Int → List Row
  | 0, _ => []
  | n + 1, k => if x k = -1 then foldFrom x n (k + 1) else (k, x k) :: foldFrom x n (k + 1)

theorem foldFrom_rise (x : Int → Int) (hx : ∀ k, -1 ≤ x k ∧ x k ≤ 996) (n : Nat) (k : Int) (h : k + n ≤ 100) : riseB (k - 1) (foldFrom x n k) = true := by
  induction n generalizing k with
  | zero => rfl
  | succ n ih =>
    have ih := ih (k + 1) (by omega)
    rw [foldFrom]
    split
    · exact riseB_weaken ih (by omega)
    · rw [riseB_cons]
      have := hx k
      refine ⟨⟨by simp; omega, by simp; omega, by simp; omega, by simp; omega⟩, ?_⟩
      simpa using ih

theorem foldFrom_value (x : Int → Int) (n : Nat) (k j : Int) : valueOf (foldFrom x n k) j = if k ≤ j ∧ j < k + n then x j else -1 := by
  induction n generalizing k with
  | zero =>
    rw [if_neg (by omega)]; rfl
  | succ n ih =>
    rw [foldFrom]
    split
    · rename_i hx
      rw [ih]
      by_cases hj : j = k
      · subst hj
        rw [if_neg (by omega), if_pos (by omega), hx]
      · by_cases h : k + 1 ≤ j ∧ j < k + 1 + n
        · rw [if_pos h, if_pos (by omega)]
        · rw [if_neg h, if_neg (by omega)]
    · rw [valueOf]
      split
      · rename_i h
        simp at h
        subst h
        rw [if_pos (by omega)]
      · rename_i h
        simp at h
        rw [ih]
        by_cases h' : k + 1 ≤ j ∧ j < k + 1 + n
        · rw [if_pos h', if_pos (by omega)]
        · rw [if_neg h', if_neg (by omega)]

/-- The rows that a table says. -/
def folded (x : Int → Int) : List Row := foldFrom x 100 0
/-- Rows with a key put. -/
def putL (l : List Row) (key val : Int) : List Row := folded fun k => if k = key then val else valueOf l k

theorem folded_rise (x : Int → Int) (hx : ∀ k, -1 ≤ x k ∧ x k ≤ 996) : riseB (-1) (folded x) = true := by
  have := foldFrom_rise x hx 100 0 (by decide)
  simpa [folded] using this
theorem folded_value (x : Int → Int) (k : Int) (h0 : 0 ≤ k) (h1 : k ≤ 99) : valueOf (folded x) k = x k := by
  rw [folded, foldFrom_value, if_pos (by omega)]
theorem folded_of {l : List Row} (hl : riseB (-1) l = true) : folded (valueOf l) = l :=
  rows_ext (last := -1) (folded_rise _ (valueOf_bounds hl)) hl fun k h0 h1 => folded_value _ k (by omega) h1
theorem folded_eq {l : List Row} (hl : riseB (-1) l = true) {x : Int → Int} (h : ∀ k, 0 ≤ k → k ≤ 99 → valueOf l k = x k) (hx : ∀ k, -1 ≤ x k ∧ x k ≤ 996) : l = folded x :=
  rows_ext (last := -1) hl (folded_rise _ hx) fun k h0 h1 => by rw [folded_value _ k (by omega) h1]; exact h k (by omega) h1

theorem take_more {α : Type} {l m : List α} {k : Nat} (h : k < l.length) (g : k < m.length) (e : l.take k = m.take k) (f : l[k] = m[k]) : l.take (k + 1) = m.take (k + 1) := by
  rw [List.take_succ_eq_append_getElem h, List.take_succ_eq_append_getElem g, e, f]
theorem take_all {α : Type} {l m : List α} {k : Nat} (h : ¬ k < l.length) (h1 : l.length ≤ m.length) (h2 : m.length ≤ l.length) (e : l.take k = m.take k) : l = m := by
  rwa [List.take_of_length_le (by omega), List.take_of_length_le (by omega)] at e

/-! ### Chapter 2 -/

/-- May it be a level? -/
def levB (n : Int) : Bool := decide (0 ≤ n) && decide (n ≤ 9)
/-- Ends a row a chunk? -/
def endsB (r : Row) (n : Int) : Bool := keyB r.1 && (decide (0 ≤ r.2) && decide (r.2 ≤ 996)) && levB n && ((7 * r.1 + 13 * r.2 + 5 * n) % 3 == 0)
theorem endsB_key {r : Row} {n : Int} (h : keyB r.1 = false) : endsB r n = false := by simp [endsB, h]
theorem endsB_val {r : Row} {n : Int} (h : (decide (0 ≤ r.2) && decide (r.2 ≤ 996)) = false) : endsB r n = false := by simp [endsB, h]
theorem endsB_lev {r : Row} {n : Int} (h : levB n = false) : endsB r n = false := by simp [endsB, h]
theorem endsB_go {r : Row} {n : Int} (h : keyB r.1 = true) (g : (decide (0 ≤ r.2) && decide (r.2 ≤ 996)) = true) (i : levB n = true) : endsB r n = ((7 * r.1 + 13 * r.2 + 5 * n) % 3 == 0) := by
  rw [endsB, h, g, i]; simp
/-- One row more of a Sum. -/
def sumStep (n : Int) (r : Row) : Int := (31 * n + 7 * r.1 + r.2 + 1) % 997
def sumL (l : List Row) : Int := l.foldl sumStep 1
/-- Rows that may lie in a chunk: their numbers are within bounds. -/
def fineB (l : List Row) : Bool := l.all fun r => decide (0 ≤ r.1) && decide (r.1 ≤ 99) && decide (0 ≤ r.2) && decide (r.2 ≤ 996)
theorem fine_of_rise {last : Int} {l : List Row} (h0 : -1 ≤ last) (h : riseB last l = true) : fineB l = true := by
  induction l generalizing last with
  | nil => rfl
  | cons r l ih =>
    rw [riseB_cons] at h
    have := ih (by omega) h.2
    simp only [fineB, List.all_cons, Bool.and_eq_true, decide_eq_true_eq] at this ⊢
    exact ⟨⟨⟨⟨by omega, by omega⟩, by omega⟩, by omega⟩, this⟩
theorem fine_get {l : List Row} (h : fineB l = true) {k : Nat} (hk : k < l.length) : 0 ≤ l[k].1 ∧ l[k].1 ≤ 99 ∧ 0 ≤ l[k].2 ∧ l[k].2 ≤ 996 := by
  have := List.all_eq_true.1 h l[k] (List.getElem_mem hk)
  simp only [Bool.and_eq_true, decide_eq_true_eq] at this
  omega
theorem fold_take {l : List Row} {k : Nat} (hk : k < l.length) (n : Int) : (l.take (k + 1)).foldl sumStep n = sumStep ((l.take k).foldl sumStep n) l[k] := by
  rw [List.take_succ_eq_append_getElem hk, List.foldl_append]; rfl
theorem fold_bounds (l : List Row) : 0 ≤ l.foldl sumStep 1 ∧ l.foldl sumStep 1 ≤ 996 := by
  rcases List.eq_nil_or_concat l with rfl | ⟨m, r, rfl⟩
  · simp
  · rw [List.concat_eq_append, List.foldl_append]
    show 0 ≤ sumStep _ r ∧ sumStep _ r ≤ 996
    unfold sumStep
    omega

/-- How many rows the chunk has of which c have been taken; l: what stands behind them. -/
def cnt (n : Int) : Nat → List Row → Nat
  | c, [] => c
  | c, r :: l => if (decide (1 ≤ c) && endsB r n || c == 5 || l.isEmpty) = true then c + 1 else cnt n (c + 1) l
theorem cnt_le (n : Int) : ∀ (l : List Row) (c : Nat), cnt n c l ≤ c + l.length
  | [], c => by simp [cnt]
  | r :: l, c => by
    rw [cnt]
    split
    · simp
    · have := cnt_le n l (c + 1)
      simp only [List.length_cons]
      omega
theorem cnt_ge (n : Int) : ∀ (l : List Row) (c : Nat), c ≤ cnt n c l
  | [], c => by simp [cnt]
  | r :: l, c => by
    rw [cnt]
    split
    · omega
    · have := cnt_ge n l (c + 1)
      omega
theorem cnt_pos (n : Int) {l : List Row} (h : l ≠ []) (c : Nat) : c < cnt n c l := by
  cases l with
  | nil => exact absurd rfl h
  | cons r l =>
    rw [cnt]
    split
    · omega
    · have := cnt_ge n l (c + 1)
      omega
theorem cnt_most (n : Int) : ∀ (l : List Row) (c : Nat), c ≤ 5 → cnt n c l ≤ 6
  | [], c, h => by rw [cnt]; omega
  | r :: l, c, h => by
    rw [cnt]
    split
    · omega
    · rename_i hx
      simp at hx
      exact cnt_most n l (c + 1) (by omega)
theorem cnt_cut {n : Int} {l : List Row} {k c : Nat} (hk : k < l.length) (h : (decide (1 ≤ c) && endsB l[k] n || c == 5 || decide (k + 1 = l.length)) = true) : cnt n c (l.drop k) = c + 1 := by
  rw [List.drop_eq_getElem_cons hk, cnt, if_pos]
  rw [← h]
  congr 1
  rw [Bool.eq_iff_iff]
  simp
  omega
theorem cnt_go {n : Int} {l : List Row} {k c : Nat} (hk : k < l.length) (h : (decide (1 ≤ c) && endsB l[k] n || c == 5 || decide (k + 1 = l.length)) = false) : cnt n c (l.drop k) = cnt n (c + 1) (l.drop (k + 1)) := by
  rw [List.drop_eq_getElem_cons hk, cnt, if_neg]
  rw [Bool.not_eq_true, ← h]
  congr 1
  rw [Bool.eq_iff_iff]
  simp
  omega

def chunksF (n : Int) : Nat → List Row → List (List Row)
  | 0, _ => []
  | f + 1, l => if l.isEmpty then [] else l.take (cnt n 0 l) :: chunksF n f (l.drop (cnt n 0 l))
/-- B1: right rows, cut. -/
def chunks (n : Int) (l : List Row) : List (List Row) := chunksF n l.length l
theorem chunksF_more (n : Int) : ∀ (f g : Nat) (l : List Row), l.length ≤ f → l.length ≤ g → chunksF n f l = chunksF n g l
  | 0, 0, _, _, _ => rfl
  | 0, g + 1, l, h, _ => by
    obtain rfl := List.eq_nil_of_length_eq_zero (Nat.le_zero.1 h)
    rfl
  | f + 1, 0, l, _, h => by
    obtain rfl := List.eq_nil_of_length_eq_zero (Nat.le_zero.1 h)
    rfl
  | f + 1, g + 1, l, h1, h2 => by
    rw [chunksF, chunksF]
    split
    · rfl
    · rename_i he
      have hl : l ≠ [] := by simpa using he
      have := cnt_pos n hl 0
      rw [chunksF_more n f g _ (by simp; omega) (by simp; omega)]
theorem chunks_nil (n : Int) : chunks n [] = [] := rfl
theorem chunks_cons (n : Int) {l : List Row} (h : l ≠ []) : chunks n l = l.take (cnt n 0 l) :: chunks n (l.drop (cnt n 0 l)) := by
  cases l with
  | nil => exact absurd rfl h
  | cons r l =>
    have := cnt_pos n h 0
    rw [chunks, List.length_cons, chunksF, if_neg (by simp)]
    rw [chunks, chunksF_more n l.length _ _ (by simp; omega) (Nat.le_refl _)]
/-- The step of the document's own cut: a chunk ends at k. -/
theorem chunks_step {n : Int} {l : List Row} {fr k : Nat} (hf : fr ≤ k) (hk : k < l.length) (h : cnt n 0 (l.drop fr) = k - fr + 1) : chunks n (l.drop fr) = (l.drop fr).take (k + 1 - fr) :: chunks n (l.drop (k + 1)) := by
  rw [chunks_cons n (by intro e; have := congrArg List.length e; simp at this; omega), h, List.drop_drop]
  rw [show k - fr + 1 = k + 1 - fr by omega, show fr + (k + 1 - fr) = k + 1 by omega]
theorem chunks_mem {n : Int} {l : List Row} : ∀ c ∈ chunks n l, c ≠ [] ∧ ∀ r ∈ c, r ∈ l := by
  generalize hf : l.length = f
  induction f using Nat.strongRecOn generalizing l with
  | _ f ih =>
    by_cases hl : l = []
    · subst hl; simp [chunks_nil]
    · have hp := cnt_pos n hl 0
      have hle := cnt_le n l 0
      have hpos : 0 < l.length := List.length_pos_iff.2 hl
      rw [chunks_cons n hl]
      intro c hc
      rcases List.mem_cons.1 hc with rfl | hc
      · exact ⟨fun e => by have := congrArg List.length e; rw [List.length_take, List.length_nil] at this; omega, fun r hr => List.mem_of_mem_take hr⟩
      · have := ih (l.drop (cnt n 0 l)).length (by simp; omega) rfl c hc
        exact ⟨this.1, fun r hr => List.mem_of_mem_drop (this.2 r hr)⟩
theorem chunks_flatten (n : Int) (l : List Row) : (chunks n l).flatten = l := by
  generalize hf : l.length = f
  induction f using Nat.strongRecOn generalizing l with
  | _ f ih =>
    by_cases hl : l = []
    · subst hl; rfl
    · have hp := cnt_pos n hl 0
      have hpos : 0 < l.length := List.length_pos_iff.2 hl
      rw [chunks_cons n hl, List.flatten_cons, ih (l.drop (cnt n 0 l)).length (by simp; omega) _ rfl, List.take_append_drop]
theorem chunks_length (n : Int) (l : List Row) : (chunks n l).length ≤ l.length := by
  generalize hf : l.length = f
  induction f using Nat.strongRecOn generalizing l with
  | _ f ih =>
    by_cases hl : l = []
    · subst hl; simp [chunks_nil]
    · have hp := cnt_pos n hl 0
      have hpos : 0 < l.length := List.length_pos_iff.2 hl
      have := ih (l.drop (cnt n 0 l)).length (by simp; omega) _ rfl
      rw [chunks_cons n hl]
      simp at this ⊢
      omega

theorem chunks_sizes {n : Int} {l : List Row} : ∀ (i : Nat) (c : List Row), (chunks n l)[i]? = some c → 0 < c.length ∧ c.length ≤ 6 ∧ (i + 1 < (chunks n l).length → 2 ≤ c.length) := by
  generalize hf : l.length = f
  induction f using Nat.strongRecOn generalizing l with
  | _ f ih =>
    intro i c hc
    by_cases hl : l = []
    · subst hl; simp [chunks_nil] at hc
    · have hp := cnt_pos n hl 0
      have hle := cnt_le n l 0
      have hm := cnt_most n l 0 (by omega)
      have hpos : 0 < l.length := List.length_pos_iff.2 hl
      rw [chunks_cons n hl] at hc ⊢
      cases i with
      | zero =>
        simp only [List.getElem?_cons_zero, Option.some.injEq] at hc
        subst hc
        refine ⟨by rw [List.length_take]; omega, by rw [List.length_take]; omega, fun h => ?_⟩
        rw [List.length_cons] at h
        have hd : l.drop (cnt n 0 l) ≠ [] := by
          intro e; rw [e, chunks_nil] at h; simp at h
        have hlt : cnt n 0 l < l.length := by
          have := List.length_pos_iff.2 hd; rw [List.length_drop] at this; omega
        rw [List.length_take]
        have h2 : 2 ≤ l.length := by omega
        have hg := cnt_go (n := n) (l := l) (k := 0) (c := 0) hpos (by simp; omega)
        have := cnt_pos n (l := l.drop 1) (by intro e; have := congrArg List.length e; simp at this; omega) 1
        simp only [List.drop_zero, Nat.zero_add] at hg
        omega
      | succ i =>
        simp only [List.getElem?_cons_succ] at hc
        have := ih (l.drop (cnt n 0 l)).length (by simp; omega) rfl i c hc
        exact ⟨this.1, this.2.1, fun h => this.2.2 (by rw [List.length_cons] at h; omega)⟩
/-- What stands behind a chunk is cut as it would be alone. -/
theorem chunks_drop (n : Int) : ∀ (k : Nat) (l : List Row), k ≤ (chunks n l).length → chunks n (l.drop ((chunks n l).take k).flatten.length) = (chunks n l).drop k
  | 0, l, _ => by simp
  | k + 1, l, h => by
    by_cases hl : l = []
    · subst hl; simp [chunks_nil] at h
    · have hle := cnt_le n l 0
      rw [chunks_cons n hl] at h ⊢
      rw [List.length_cons] at h
      have := chunks_drop n k (l.drop (cnt n 0 l)) (by omega)
      rw [List.drop_drop] at this
      rw [List.take_succ_cons, List.flatten_cons, List.length_append, List.length_take, Nat.min_eq_left (by omega), List.drop_succ_cons]
      exact this
theorem flatten_take_le {α : Type} : ∀ (x : List (List α)) (k : Nat), (x.take k).flatten.length ≤ x.flatten.length
  | [], k => by simp
  | a :: x, 0 => by simp
  | a :: x, k + 1 => by
    have := flatten_take_le x k
    simp only [List.take_succ_cons, List.flatten_cons, List.length_append]
    omega
/-- How many elements the first k lists have. -/
def skipN {α : Type} (x : List (List α)) (k : Nat) : Nat := (x.take k).flatten.length
theorem flatten_take_succ {α : Type} {x : List (List α)} {k : Nat} {c : List α} (h : x[k]? = some c) : (x.take (k + 1)).flatten = (x.take k).flatten ++ c := by
  obtain ⟨hk, rfl⟩ := List.getElem?_eq_some_iff.1 h
  rw [List.take_succ_eq_append_getElem hk, List.flatten_append]
  simp
theorem rise_drop {last : Int} {l : List Row} (h : riseB last l = true) (k : Nat) : ∃ m, last ≤ m ∧ riseB m (l.drop k) = true := by
  induction k generalizing last l with
  | zero => exact ⟨last, Int.le_refl _, h⟩
  | succ k ih =>
    cases l with
    | nil => exact ⟨last, Int.le_refl _, rfl⟩
    | cons r l =>
      rw [riseB_cons] at h
      obtain ⟨m, h1, h2⟩ := ih h.2
      exact ⟨m, by omega, by simpa using h2⟩
theorem rowsErr_zero {l : List Row} (h1 : l.length ≤ 40) (h2 : riseB (-1) l = true) : rowsErr l = 0 := by
  rw [rowsErr, if_neg (by omega), h2]; rfl
theorem ok_rise {l : List Row} (h : rowsErr l = 0) : l.length ≤ 40 ∧ riseB (-1) l = true := by
  unfold rowsErr at h
  split at h
  · omega
  · split at h
    · rename_i h1 h2; exact ⟨by omega, h2⟩
    · omega
theorem ok_fine {l : List Row} (h : rowsErr l = 0) : fineB l = true := fine_of_rise (by omega) (ok_rise h).2
theorem ok_drop {l : List Row} (h : rowsErr l = 0) (k : Nat) : rowsErr (l.drop k) = 0 := by
  obtain ⟨h1, h2⟩ := ok_rise h
  obtain ⟨m, h3, h4⟩ := rise_drop h2 k
  exact rowsErr_zero (by simp; omega) (riseB_weaken h4 h3)

/-- Which of n things a raw number speaks of. -/
def chooseL (c n : Int) : Int := (if c < 0 then -(c + 1) else c) % n
theorem choose_bounds {c n : Int} (hn : 0 < n) : 0 ≤ chooseL c n ∧ chooseL c n < n := ⟨Int.emod_nonneg _ (by omega), Int.emod_lt_of_pos _ hn⟩

end Go.Pch
