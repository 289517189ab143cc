/- Plain words of pleach on lists (chapters 1 and 2): what rows are right, what a key has, chunks; no program is named here. Plain words of chapter 8 (commits) on lists; no program is named here. General words for the proofs over pleach: what a value reads as in a world (Ty), what a call returns (Ret), a slice that the call itself grows (Own); no program is named here. -/
import Derived.WalkKit
import Derived.WalkSpells
import Derived.WalkLawsBesides
import Derived.Deep.QuietTactic
import Derived.BigQuiet
section
namespace Go.Pch
abbrev Row := Int × Int
def keyB (k : Int) : Bool := decide (0 ≤ k) && decide (k ≤ 99)
def valB (v : Int) : Bool := decide (-1 ≤ v) && decide (v ≤ 996)
def riseB : Int → List Row → Bool
  | _, [] => true
  | last, r :: l => !(decide (r.1 ≤ last) || decide (99 < r.1) || decide (r.2 < 0) || decide (996 < r.2)) && riseB r.1 l
def rowsErr (l : List Row) : Int := if 40 < l.length then 2 else if riseB (-1) l then 0 else 1
theorem riseB_cons {last : Int} {r : Row} {l : List Row} : riseB last (r :: l) = true ↔ (last < r.1 ∧ r.1 ≤ 99 ∧ 0 ≤ r.2 ∧ r.2 ≤ 996) ∧ riseB r.1 l = true := by
  simp only [riseB, Bool.and_eq_true, Bool.not_eq_true', Bool.or_eq_false_iff, decide_eq_false_iff_not]
  constructor
  · rintro ⟨⟨⟨⟨h1, h2⟩, h3⟩, h4⟩, h5⟩; exact ⟨⟨by omega, by omega, by omega, by omega⟩, h5⟩
  · rintro ⟨⟨h1, h2, h3, h4⟩, h5⟩; exact ⟨⟨⟨⟨by omega, by omega⟩, by omega⟩, by omega⟩, h5⟩
theorem riseB_weaken {a b : Int} {l : List Row} (h : riseB b l = true) (hab : a ≤ b) : riseB a l = true := by
  cases l with
  | nil => rfl
  | cons r l =>
    rw [riseB_cons] at h ⊢
    exact ⟨⟨by omega, h.1.2⟩, h.2⟩
theorem rise_go {m : Int} {l : List Row} {k : Nat} (hk : k < l.length) (h : (m < l[k].1 ∧ l[k].1 ≤ 99) ∧ 0 ≤ l[k].2 ∧ l[k].2 ≤ 996) : riseB m (l.drop k) = riseB l[k].1 (l.drop (k + 1)) := by
  rw [List.drop_eq_getElem_cons hk, Bool.eq_iff_iff, riseB_cons]
  exact ⟨fun h => h.2, fun g => ⟨⟨h.1.1, h.1.2, h.2.1, h.2.2⟩, g⟩⟩
theorem rise_stop {m : Int} {l : List Row} {k : Nat} (hk : k < l.length) (h : l[k].1 ≤ m ∨ 99 < l[k].1 ∨ l[k].2 < 0 ∨ 996 < l[k].2) : riseB m (l.drop k) = false := by
  rw [List.drop_eq_getElem_cons hk, Bool.eq_false_iff]
  intro g
  have := (riseB_cons.1 g).1
  omega
theorem rise_end {m : Int} {l : List Row} {k : Nat} (hk : ¬ k < l.length) : riseB m (l.drop k) = true := by
  rw [List.drop_of_length_le (by omega)]; rfl
theorem rowsErr_many {l : List Row} (h : 40 < l.length) : rowsErr l = 2 := by rw [rowsErr, if_pos h]
theorem rowsErr_form {l : List Row} (h : l.length ≤ 40) {m : Int} {k : Nat} (e : riseB (-1) l = riseB m (l.drop k)) (b : riseB m (l.drop k) = false) : rowsErr l = 1 := by
  rw [rowsErr, if_neg (by omega), e, b]; rfl
theorem rowsErr_ok {l : List Row} (h : l.length ≤ 40) {m : Int} {k : Nat} (e : riseB (-1) l = riseB m (l.drop k)) (b : riseB m (l.drop k) = true) : rowsErr l = 0 := by
  rw [rowsErr, if_neg (by omega), e, b]; rfl
def valueOf (l : List Row) (key : Int) : Int := match l with
  | [] => -1
  | r :: l => if r.1 = key then r.2 else valueOf l key
theorem valueOf_low {last : Int} {l : List Row} (h : riseB last l = true) {k : Int} (hk : k ≤ last) : valueOf l k = -1 := by
  induction l generalizing last with
  | nil => rfl
  | cons r l ih =>
    rw [riseB_cons] at h
    rw [valueOf, if_neg (by omega)]
    exact ih h.2 (by omega)
theorem valueOf_bounds {last : Int} {l : List Row} (h : riseB last l = true) (k : Int) : -1 ≤ valueOf l k ∧ valueOf l k ≤ 996 := by
  induction l generalizing last with
  | nil => simp [valueOf]
  | cons r l ih =>
    rw [riseB_cons] at h
    rw [valueOf]
    split
    · omega
    · exact ih h.2
theorem rows_ext {last : Int} {l m : List Row} (hl : riseB last l = true) (hm : riseB last m = true) (h : ∀ k, last < k → k ≤ 99 → valueOf l k = valueOf m k) : l = m := by
  induction l generalizing last m with
  | nil =>
    cases m with
    | nil => rfl
    | cons r m =>
      rw [riseB_cons] at hm
      have := h r.1 (by omega) (by omega)
      simp [valueOf] at this
      omega
  | cons q l ih =>
    cases m with
    | nil =>
      rw [riseB_cons] at hl
      have := h q.1 (by omega) (by omega)
      simp [valueOf] at this
      omega
    | cons r m =>
      rw [riseB_cons] at hl hm
      have hq : q.1 = r.1 := by
        rcases Int.lt_trichotomy q.1 r.1 with hlt | heq | hgt
        · have := h q.1 (by omega) (by omega)
          rw [valueOf, if_pos rfl, valueOf, if_neg (by omega), valueOf_low hm.2 (by omega)] at this
          omega
        · exact heq
        · have := h r.1 (by omega) (by omega)
          rw [valueOf, if_neg (by omega), valueOf_low hl.2 (by omega), valueOf, if_pos rfl] at this
          omega
      have hv : q.2 = r.2 := by
        have := h q.1 (by omega) (by omega)
        rwa [valueOf, if_pos rfl, valueOf, if_pos hq.symm] at this
      have hqr : q = r := Prod.ext hq hv
      subst hqr
      rw [ih hl.2 hm.2 (fun k hk hk' => ?_)]
      have := h k (by omega) hk'
      rwa [valueOf, if_neg (by omega), valueOf, if_neg (by omega)] at this
def foldFrom (x : Int → Int) : Nat → Int → List Row
  | 0, _ => []
  | n + 1, k => if x k = -1 then foldFrom x n (k + 1) else (k, x k) :: foldFrom x n (k + 1)
theorem foldFrom_rise (x : Int → Int) (hx : ∀ k, -1 ≤ x k ∧ x k ≤ 996) (n : Nat) (k : Int) (h : k + n ≤ 100) : riseB (k - 1) (foldFrom x n k) = true := by
  induction n generalizing k with
  | zero => rfl
  | succ n ih =>
    have ih := ih (k + 1) (by omega)
    rw [foldFrom]
    split
    · exact riseB_weaken ih (by omega)
    · rw [riseB_cons]
      have := hx k
      refine ⟨⟨by simp; omega, by simp; omega, by simp; omega, by simp; omega⟩, ?_⟩
      simpa using ih
theorem foldFrom_value (x : Int → Int) (n : Nat) (k j : Int) : valueOf (foldFrom x n k) j = if k ≤ j ∧ j < k + n then x j else -1 := by
  induction n generalizing k with
  | zero =>
    rw [if_neg (by omega)]; rfl
  | succ n ih =>
    rw [foldFrom]
    split
    · rename_i hx
      rw [ih]
      by_cases hj : j = k
      · subst hj
        rw [if_neg (by omega), if_pos (by omega), hx]
      · by_cases h : k + 1 ≤ j ∧ j < k + 1 + n
        · rw [if_pos h, if_pos (by omega)]
        · rw [if_neg h, if_neg (by omega)]
    · rw [valueOf]
      split
      · rename_i h
        simp at h
        subst h
        rw [if_pos (by omega)]
      · rename_i h
        simp at h
        rw [ih]
        by_cases h' : k + 1 ≤ j ∧ j < k + 1 + n
        · rw [if_pos h', if_pos (by omega)]
        · rw [if_neg h', if_neg (by omega)]
def folded (x : Int → Int) : List Row := foldFrom x 100 0
theorem folded_rise (x : Int → Int) (hx : ∀ k, -1 ≤ x k ∧ x k ≤ 996) : riseB (-1) (folded x) = true := by
  have := foldFrom_rise x hx 100 0 (by decide)
  simpa [folded] using this
theorem folded_value (x : Int → Int) (k : Int) (h0 : 0 ≤ k) (h1 : k ≤ 99) : valueOf (folded x) k = x k := by
  rw [folded, foldFrom_value, if_pos (by omega)]
theorem folded_of {l : List Row} (hl : riseB (-1) l = true) : folded (valueOf l) = l :=
  rows_ext (last := -1) (folded_rise _ (valueOf_bounds hl)) hl fun k h0 h1 => folded_value _ k (by omega) h1
theorem take_more {α : Type} {l m : List α} {k : Nat} (h : k < l.length) (g : k < m.length) (e : l.take k = m.take k) (f : l[k] = m[k]) : l.take (k + 1) = m.take (k + 1) := by
  rw [List.take_succ_eq_append_getElem h, List.take_succ_eq_append_getElem g, e, f]
theorem take_all {α : Type} {l m : List α} {k : Nat} (h : ¬ k < l.length) (h1 : l.length ≤ m.length) (h2 : m.length ≤ l.length) (e : l.take k = m.take k) : l = m := by
  rwa [List.take_of_length_le (by omega), List.take_of_length_le (by omega)] at e
def levB (n : Int) : Bool := decide (0 ≤ n) && decide (n ≤ 9)
def endsB (r : Row) (n : Int) : Bool := keyB r.1 && (decide (0 ≤ r.2) && decide (r.2 ≤ 996)) && levB n && ((7 * r.1 + 13 * r.2 + 5 * n) % 3 == 0)
theorem endsB_key {r : Row} {n : Int} (h : keyB r.1 = false) : endsB r n = false := by simp [endsB, h]
theorem endsB_val {r : Row} {n : Int} (h : (decide (0 ≤ r.2) && decide (r.2 ≤ 996)) = false) : endsB r n = false := by simp [endsB, h]
theorem endsB_lev {r : Row} {n : Int} (h : levB n = false) : endsB r n = false := by simp [endsB, h]
theorem endsB_go {r : Row} {n : Int} (h : keyB r.1 = true) (g : (decide (0 ≤ r.2) && decide (r.2 ≤ 996)) = true) (i : levB n = true) : endsB r n = ((7 * r.1 + 13 * r.2 + 5 * n) % 3 == 0) := by
  rw [endsB, h, g, i]; simp
def sumStep (n : Int) (r : Row) : Int := (31 * n + 7 * r.1 + r.2 + 1) % 997
def sumL (l : List Row) : Int := l.foldl sumStep 1
def fineB (l : List Row) : Bool := l.all fun r => decide (0 ≤ r.1) && decide (r.1 ≤ 99) && decide (0 ≤ r.2) && decide (r.2 ≤ 996)
theorem fine_of_rise {last : Int} {l : List Row} (h0 : -1 ≤ last) (h : riseB last l = true) : fineB l = true := by
  induction l generalizing last with
  | nil => rfl
  | cons r l ih =>
    rw [riseB_cons] at h
    have := ih (by omega) h.2
    simp only [fineB, List.all_cons, Bool.and_eq_true, decide_eq_true_eq] at this ⊢
    exact ⟨⟨⟨⟨by omega, by omega⟩, by omega⟩, by omega⟩, this⟩
theorem fine_get {l : List Row} (h : fineB l = true) {k : Nat} (hk : k < l.length) : 0 ≤ l[k].1 ∧ l[k].1 ≤ 99 ∧ 0 ≤ l[k].2 ∧ l[k].2 ≤ 996 := by
  have := List.all_eq_true.1 h l[k] (List.getElem_mem hk)
  simp only [Bool.and_eq_true, decide_eq_true_eq] at this
  omega
theorem fold_take {l : List Row} {k : Nat} (hk : k < l.length) (n : Int) : (l.take (k + 1)).foldl sumStep n = sumStep ((l.take k).foldl sumStep n) l[k] := by
  rw [List.take_succ_eq_append_getElem hk, List.foldl_append]; rfl
theorem fold_bounds (l : List Row) : 0 ≤ l.foldl sumStep 1 ∧ l.foldl sumStep 1 ≤ 996 := by
  rcases List.eq_nil_or_concat l with rfl | ⟨m, r, rfl⟩
  · simp
  · rw [List.concat_eq_append, List.foldl_append]
    show 0 ≤ sumStep _ r ∧ sumStep _ r ≤ 996
    unfold sumStep
    omega
def cnt (n : Int) : Nat → List Row → Nat
  | c, [] => c
  | c, r :: l => if (decide (1 ≤ c) && endsB r n || c == 5 || l.isEmpty) = true then c + 1 else cnt n (c + 1) l
theorem cnt_le (n : Int) : ∀ (l : List Row) (c : Nat), cnt n c l ≤ c + l.length
  | [], c => by simp [cnt]
  | r :: l, c => by
    rw [cnt]
    split
    · simp
    · have := cnt_le n l (c + 1)
      simp only [List.length_cons]
      omega
theorem cnt_ge (n : Int) : ∀ (l : List Row) (c : Nat), c ≤ cnt n c l
  | [], c => by simp [cnt]
  | r :: l, c => by
    rw [cnt]
    split
    · omega
    · have := cnt_ge n l (c + 1)
      omega
theorem cnt_pos (n : Int) {l : List Row} (h : l ≠ []) (c : Nat) : c < cnt n c l := by
  cases l with
  | nil => exact absurd rfl h
  | cons r l =>
    rw [cnt]
    split
    · omega
    · have := cnt_ge n l (c + 1)
      omega
theorem cnt_most (n : Int) : ∀ (l : List Row) (c : Nat), c ≤ 5 → cnt n c l ≤ 6
  | [], c, h => by rw [cnt]; omega
  | r :: l, c, h => by
    rw [cnt]
    split
    · omega
    · rename_i hx
      simp at hx
      exact cnt_most n l (c + 1) (by omega)
theorem cnt_cut {n : Int} {l : List Row} {k c : Nat} (hk : k < l.length) (h : (decide (1 ≤ c) && endsB l[k] n || c == 5 || decide (k + 1 = l.length)) = true) : cnt n c (l.drop k) = c + 1 := by
  rw [List.drop_eq_getElem_cons hk, cnt, if_pos]
  rw [← h]
  congr 1
  rw [Bool.eq_iff_iff]
  simp
  omega
theorem cnt_go {n : Int} {l : List Row} {k c : Nat} (hk : k < l.length) (h : (decide (1 ≤ c) && endsB l[k] n || c == 5 || decide (k + 1 = l.length)) = false) : cnt n c (l.drop k) = cnt n (c + 1) (l.drop (k + 1)) := by
  rw [List.drop_eq_getElem_cons hk, cnt, if_neg]
  rw [Bool.not_eq_true, ← h]
  congr 1
  rw [Bool.eq_iff_iff]
  simp
  omega
def chunksF (n : Int) : Nat → List Row → List (List Row)
  | 0, _ => []
  | f + 1, l => if l.isEmpty then [] else l.take (cnt n 0 l) :: chunksF n f (l.drop (cnt n 0 l))
def chunks (n : Int) (l : List Row) : List (List Row) := chunksF n l.length l
theorem chunksF_more (n : Int) : ∀ (f g : Nat) (l : List Row), l.length ≤ f → l.length ≤ g → chunksF n f l = chunksF n g l
  | 0, 0, _, _, _ => rfl
  | 0, g + 1, l, h, _ => by
    obtain rfl := List.eq_nil_of_length_eq_zero (Nat.le_zero.1 h)
    rfl
  | f + 1, 0, l, _, h => by
    obtain rfl := List.eq_nil_of_length_eq_zero (Nat.le_zero.1 h)
    rfl
  | f + 1, g + 1, l, h1, h2 => by
    rw [chunksF, chunksF]
    split
    · rfl
    · rename_i he
      have hl : l ≠ [] := by simpa using he
      have := cnt_pos n hl 0
      rw [chunksF_more n f g _ (by simp; omega) (by simp; omega)]
theorem chunks_nil (n : Int) : chunks n [] = [] := rfl
theorem chunks_cons (n : Int) {l : List Row} (h : l ≠ []) : chunks n l = l.take (cnt n 0 l) :: chunks n (l.drop (cnt n 0 l)) := by
  cases l with
  | nil => exact absurd rfl h
  | cons r l =>
    have := cnt_pos n h 0
    rw [chunks, List.length_cons, chunksF, if_neg (by simp)]
    rw [chunks, chunksF_more n l.length _ _ (by simp; omega) (Nat.le_refl _)]
theorem chunks_step {n : Int} {l : List Row} {fr k : Nat} (hf : fr ≤ k) (hk : k < l.length) (h : cnt n 0 (l.drop fr) = k - fr + 1) : chunks n (l.drop fr) = (l.drop fr).take (k + 1 - fr) :: chunks n (l.drop (k + 1)) := by
  rw [chunks_cons n (by intro e; have := congrArg List.length e; simp at this; omega), h, List.drop_drop]
  rw [show k - fr + 1 = k + 1 - fr by omega, show fr + (k + 1 - fr) = k + 1 by omega]
theorem chunks_mem {n : Int} {l : List Row} : ∀ c ∈ chunks n l, c ≠ [] ∧ ∀ r ∈ c, r ∈ l := by
  generalize hf : l.length = f
  induction f using Nat.strongRecOn generalizing l with
  | _ f ih =>
    by_cases hl : l = []
    · subst hl; simp [chunks_nil]
    · have hp := cnt_pos n hl 0
      have hle := cnt_le n l 0
      have hpos : 0 < l.length := List.length_pos_iff.2 hl
      rw [chunks_cons n hl]
      intro c hc
      rcases List.mem_cons.1 hc with rfl | hc
      · exact ⟨fun e => by have := congrArg List.length e; rw [List.length_take, List.length_nil] at this; omega, fun r hr => List.mem_of_mem_take hr⟩
      · have := ih (l.drop (cnt n 0 l)).length (by simp; omega) rfl c hc
        exact ⟨this.1, fun r hr => List.mem_of_mem_drop (this.2 r hr)⟩
theorem chunks_flatten (n : Int) (l : List Row) : (chunks n l).flatten = l := by
  generalize hf : l.length = f
  induction f using Nat.strongRecOn generalizing l with
  | _ f ih =>
    by_cases hl : l = []
    · subst hl; rfl
    · have hp := cnt_pos n hl 0
      have hpos : 0 < l.length := List.length_pos_iff.2 hl
      rw [chunks_cons n hl, List.flatten_cons, ih (l.drop (cnt n 0 l)).length (by simp; omega) _ rfl, List.take_append_drop]
theorem chunks_length (n : Int) (l : List Row) : (chunks n l).length ≤ l.length := by
  generalize hf : l.length = f
  induction f using Nat.strongRecOn generalizing l with
  | _ f ih =>
    by_cases hl : l = []
    · subst hl; simp [chunks_nil]
    · have hp := cnt_pos n hl 0
      have hpos : 0 < l.length := List.length_pos_iff.2 hl
      have := ih (l.drop (cnt n 0 l)).length (by simp; omega) _ rfl
      rw [chunks_cons n hl]
      simp at this ⊢
      omega
theorem chunks_sizes {n : Int} {l : List Row} : ∀ (i : Nat) (c : List Row), (chunks n l)[i]? = some c → 0 < c.length ∧ c.length ≤ 6 ∧ (i + 1 < (chunks n l).length → 2 ≤ c.length) := by
  generalize hf : l.length = f
  induction f using Nat.strongRecOn generalizing l with
  | _ f ih =>
    intro i c hc
    by_cases hl : l = []
    · subst hl; simp [chunks_nil] at hc
    · have hp := cnt_pos n hl 0
      have hle := cnt_le n l 0
      have hm := cnt_most n l 0 (by omega)
      have hpos : 0 < l.length := List.length_pos_iff.2 hl
      rw [chunks_cons n hl] at hc ⊢
      cases i with
      | zero =>
        simp only [List.getElem?_cons_zero, Option.some.injEq] at hc
        subst hc
        refine ⟨by rw [List.length_take]; omega, by rw [List.length_take]; omega, fun h => ?_⟩
        rw [List.length_cons] at h
        have hd : l.drop (cnt n 0 l) ≠ [] := by
          intro e; rw [e, chunks_nil] at h; simp at h
        have hlt : cnt n 0 l < l.length := by
          have := List.length_pos_iff.2 hd; rw [List.length_drop] at this; omega
        rw [List.length_take]
        have h2 : 2 ≤ l.length := by omega
        have hg := cnt_go (n := n) (l := l) (k := 0) (c := 0) hpos (by simp; omega)
        have := cnt_pos n (l := l.drop 1) (by intro e; have := congrArg List.length e; simp at this; omega) 1
        simp only [List.drop_zero, Nat.zero_add] at hg
        omega
      | succ i =>
        simp only [List.getElem?_cons_succ] at hc
        have := ih (l.drop (cnt n 0 l)).length (by simp; omega) rfl i c hc
        exact ⟨this.1, this.2.1, fun h => this.2.2 (by rw [List.length_cons] at h; omega)⟩
theorem rowsErr_zero {l : List Row} (h1 : l.length ≤ 40) (h2 : riseB (-1) l = true) : rowsErr l = 0 := by
  rw [rowsErr, if_neg (by omega), h2]; rfl
theorem ok_rise {l : List Row} (h : rowsErr l = 0) : l.length ≤ 40 ∧ riseB (-1) l = true := by
  unfold rowsErr at h
  split at h
  · omega
  · split at h
    · rename_i h1 h2; exact ⟨by omega, h2⟩
    · omega
theorem ok_fine {l : List Row} (h : rowsErr l = 0) : fineB l = true := fine_of_rise (by omega) (ok_rise h).2
end Go.Pch
end

section
namespace Go.Pch
abbrev Commit := List Row × List Int
def risePB (n : Int) : Int → List Int → Bool
  | _, [] => true
  | last, p :: l => !(decide (p ≤ last) || decide (n ≤ p)) && risePB n p l
def commitErr (n : Int) (c : Commit) : Int := if rowsErr c.1 ≠ 0 then rowsErr c.1 else if decide (c.2.length ≤ 2) && risePB n (-1) c.2 then 0 else 1
def commitsFrom : Int → List Commit → Int
  | _, [] => 0
  | n, c :: l => if commitErr n c ≠ 0 then commitErr n c else commitsFrom (n + 1) l
def commitsErr (l : List Commit) : Int := if 14 < l.length then 2 else commitsFrom 0 l
theorem risePB_cons {n last p : Int} {l : List Int} : risePB n last (p :: l) = true ↔ (last < p ∧ p < n) ∧ risePB n p l = true := by
  simp only [risePB, Bool.and_eq_true, Bool.not_eq_true', Bool.or_eq_false_iff, decide_eq_false_iff_not, Int.not_le]
theorem risePB_go {n m : Int} {l : List Int} {k : Nat} (hk : k < l.length) (h : m < l[k] ∧ l[k] < n) : risePB n m (l.drop k) = risePB n l[k] (l.drop (k + 1)) := by
  rw [List.drop_eq_getElem_cons hk, Bool.eq_iff_iff, risePB_cons]
  exact ⟨fun h => h.2, fun g => ⟨h, g⟩⟩
theorem risePB_stop {n m : Int} {l : List Int} {k : Nat} (hk : k < l.length) (h : l[k] ≤ m ∨ n ≤ l[k]) : risePB n m (l.drop k) = false := by
  rw [List.drop_eq_getElem_cons hk, Bool.eq_false_iff]
  intro g
  have := (risePB_cons.1 g).1
  omega
theorem risePB_end {n m : Int} {l : List Int} {k : Nat} (hk : ¬ k < l.length) : risePB n m (l.drop k) = true := by
  rw [List.drop_of_length_le (by omega)]; rfl
theorem commitsFrom_go {l : List Commit} {k : Nat} (hk : k < l.length) (h : commitErr (k : Int) l[k] = 0) : commitsFrom (k : Int) (l.drop k) = commitsFrom ((k + 1 : Nat) : Int) (l.drop (k + 1)) := by
  rw [List.drop_eq_getElem_cons hk, commitsFrom, if_neg (by simpa using h)]
  congr 1
theorem commitsFrom_stop {l : List Commit} {k : Nat} (hk : k < l.length) (h : commitErr (k : Int) l[k] ≠ 0) : commitsFrom (k : Int) (l.drop k) = commitErr (k : Int) l[k] := by
  rw [List.drop_eq_getElem_cons hk, commitsFrom, if_pos h]
theorem commitsFrom_end {l : List Commit} {k : Nat} (hk : ¬ k < l.length) (n : Int) : commitsFrom n (l.drop k) = 0 := by
  rw [List.drop_of_length_le (by omega)]; rfl
def pars (l : List Commit) (n : Nat) : List Int := (l[n]?.getD ([], [])).2
def DagOk (l : List Commit) : Prop := l.length ≤ 14 ∧ ∀ (n : Nat) (c : Commit), l[n]? = some c → rowsErr c.1 = 0 ∧ c.2.length ≤ 2 ∧ risePB n (-1) c.2 = true
theorem commitErr_zero {n : Int} {c : Commit} (h : commitErr n c = 0) : rowsErr c.1 = 0 ∧ c.2.length ≤ 2 ∧ risePB n (-1) c.2 = true := by
  unfold commitErr at h
  split at h
  · rename_i h1; exact absurd h h1
  · rename_i h1
    split at h
    · rename_i h2
      simp only [Bool.and_eq_true, decide_eq_true_eq] at h2
      exact ⟨by simpa using h1, h2.1, h2.2⟩
    · cases h
theorem commitsFrom_zero : ∀ (l : List Commit) (m : Nat), commitsFrom m l = 0 → ∀ n c, l[n]? = some c → commitErr ((m + n : Nat) : Int) c = 0
  | [], _, _, n, c, hc => by simp at hc
  | d :: l, m, h, n, c, hc => by
    rw [commitsFrom] at h
    split at h
    · rename_i h1; exact absurd h h1
    · rename_i h1
      cases n with
      | zero => simp at hc; subst hc; simpa using h1
      | succ n =>
        have := commitsFrom_zero l (m + 1) (by simpa using h) n c (by simpa using hc)
        rwa [show m + (n + 1) = m + 1 + n by omega]
theorem dag_ok {l : List Commit} (h : commitsErr l = 0) : DagOk l := by
  unfold commitsErr at h
  split at h
  · cases h
  · refine ⟨by omega, fun n c hc => ?_⟩
    have := commitsFrom_zero l 0 h n c hc
    rw [Nat.zero_add] at this
    exact commitErr_zero this
theorem risePB_mem {n : Int} : ∀ {l : List Int} {last : Int}, risePB n last l = true → ∀ p ∈ l, last < p ∧ p < n
  | [], _, _, p, hp => by simp at hp
  | q :: l, last, h, p, hp => by
    rw [risePB_cons] at h
    rcases List.mem_cons.1 hp with rfl | hp
    · exact h.1
    · have := risePB_mem h.2 p hp
      omega
theorem pars_lt {l : List Commit} (h : DagOk l) {n : Nat} {p : Int} (hp : p ∈ pars l n) : 0 ≤ p ∧ p < n ∧ n < l.length := by
  unfold pars at hp
  cases hc : l[n]? with
  | none => simp [hc] at hp
  | some c =>
    rw [hc] at hp
    have := risePB_mem (h.2 n c hc).2.2 p hp
    have := (List.getElem?_eq_some_iff.1 hc).1
    omega
def abF (l : List Commit) : Nat → Nat → Nat → Bool
  | 0, n, k => k == n
  | f + 1, n, k => k == n || (pars l n).any fun p => abF l f p.toNat k
def ab (l : List Commit) (n k : Nat) : Bool := abF l n n k
theorem abF_more {l : List Commit} (h : DagOk l) : ∀ (f g n k : Nat), n ≤ f → n ≤ g → abF l f n k = abF l g n k
  | 0, 0, _, _, _, _ => rfl
  | 0, g + 1, n, k, h1, _ => by
    obtain rfl : n = 0 := by omega
    have : pars l 0 = [] := by
      cases hp : pars l 0 with
      | nil => rfl
      | cons p _ => have := pars_lt h (n := 0) (p := p) (by rw [hp]; simp); omega
    simp [abF, this]
  | f + 1, 0, n, k, _, h2 => by
    obtain rfl : n = 0 := by omega
    have : pars l 0 = [] := by
      cases hp : pars l 0 with
      | nil => rfl
      | cons p _ => have := pars_lt h (n := 0) (p := p) (by rw [hp]; simp); omega
    simp [abF, this]
  | f + 1, g + 1, n, k, h1, h2 => by
    rw [abF, abF]
    congr 1
    rw [Bool.eq_iff_iff, List.any_eq_true, List.any_eq_true]
    constructor
    · rintro ⟨p, hp, hk⟩
      have := pars_lt h hp
      exact ⟨p, hp, by rw [← abF_more h f g p.toNat k (by omega) (by omega)]; exact hk⟩
    · rintro ⟨p, hp, hk⟩
      have := pars_lt h hp
      exact ⟨p, hp, by rw [abF_more h f g p.toNat k (by omega) (by omega)]; exact hk⟩
theorem ab_eq {l : List Commit} (h : DagOk l) (n k : Nat) : ab l n k = (k == n || (pars l n).any fun p => ab l p.toNat k) := by
  rw [ab, abF_more h n (n + 1) n k (by omega) (by omega), abF]
  congr 1
  rw [Bool.eq_iff_iff, List.any_eq_true, List.any_eq_true]
  constructor
  · rintro ⟨p, hp, hk⟩
    have := pars_lt h hp
    exact ⟨p, hp, by rw [ab, abF_more h _ n _ _ (by omega) (by omega)]; exact hk⟩
  · rintro ⟨p, hp, hk⟩
    have := pars_lt h hp
    exact ⟨p, hp, by rw [ab, abF_more h _ n _ _ (by omega) (by omega)] at hk; exact hk⟩
theorem ab_self {l : List Commit} (h : DagOk l) (n : Nat) : ab l n n = true := by rw [ab_eq h]; simp
theorem ab_le {l : List Commit} (h : DagOk l) : ∀ (n k : Nat), ab l n k = true → k ≤ n := by
  intro n
  induction n using Nat.strongRecOn with
  | _ n ih =>
    intro k hk
    rw [ab_eq h, Bool.or_eq_true, List.any_eq_true] at hk
    rcases hk with hk | ⟨p, hp, hk⟩
    · simp at hk; omega
    · have := pars_lt h hp
      have := ih p.toNat (by omega) k hk
      omega
theorem ab_trans {l : List Commit} (h : DagOk l) : ∀ (n k m : Nat), ab l n k = true → ab l k m = true → ab l n m = true := by
  intro n
  induction n using Nat.strongRecOn with
  | _ n ih =>
    intro k m hk hm
    rw [ab_eq h, Bool.or_eq_true, List.any_eq_true] at hk
    rcases hk with hk | ⟨p, hp, hk⟩
    · simp at hk; subst hk; exact hm
    · have := pars_lt h hp
      rw [ab_eq h, Bool.or_eq_true, List.any_eq_true]
      exact .inr ⟨p, hp, ih p.toNat (by omega) k m hk hm⟩
theorem ab_last {l : List Commit} (h : DagOk l) : ∀ (n k : Nat), ab l n k = true → k = n ∨ ∃ i, ab l n i = true ∧ (k : Int) ∈ pars l i := by
  intro n
  induction n using Nat.strongRecOn with
  | _ n ih =>
    intro k hk
    rw [ab_eq h, Bool.or_eq_true, List.any_eq_true] at hk
    rcases hk with hk | ⟨p, hp, hk⟩
    · exact .inl (by simpa using hk)
    · have hl := pars_lt h hp
      right
      have hpn : ab l n p.toNat = true := by rw [ab_eq h, Bool.or_eq_true, List.any_eq_true]; exact .inr ⟨p, hp, ab_self h _⟩
      rcases ih p.toNat (by omega) k hk with rfl | ⟨i, hi, hki⟩
      · exact ⟨n, ab_self h n, by rw [Int.toNat_of_nonneg hl.1]; exact hp⟩
      · exact ⟨i, ab_trans h n p.toNat i hpn hi, hki⟩
theorem ab_step {l : List Commit} (h : DagOk l) {n i : Nat} {p : Int} (hi : ab l n i = true) (hp : p ∈ pars l i) : ab l n p.toNat = true :=
  ab_trans h n i p.toNat hi (by rw [ab_eq h, Bool.or_eq_true, List.any_eq_true]; exact .inr ⟨p, hp, ab_self h _⟩)
def baseB (l : List Commit) (a b k : Nat) : Bool := ab l a k && ab l b k && !((List.range l.length).any fun i => decide (k < i) && (ab l a i && ab l b i) && ab l i k)
def basesL (l : List Commit) (a b : Nat) : List Int := ((List.range l.length).filter (baseB l a b)).map Int.ofNat
def ofF (l : List Commit) : Nat → Nat → Nat
  | 0, n => 2 ^ n
  | f + 1, n => (pars l n).foldl (fun s p => s ||| ofF l f p.toNat) (2 ^ n)
theorem foldl_or_bit (f : Int → Nat) (k : Nat) : ∀ (l : List Int) (s : Nat), (l.foldl (fun s p => s ||| f p) s).testBit k = (s.testBit k || l.any fun p => (f p).testBit k)
  | [], s => by simp
  | p :: l, s => by
    rw [List.foldl_cons, foldl_or_bit f k l, Nat.testBit_or, List.any_cons, Bool.or_assoc]
theorem ofF_bit (l : List Commit) : ∀ (f n k : Nat), (ofF l f n).testBit k = abF l f n k
  | 0, n, k => by
    rw [ofF, abF, Nat.testBit_two_pow, Bool.eq_iff_iff, decide_eq_true_eq, beq_iff_eq]
    exact eq_comm
  | f + 1, n, k => by
    rw [ofF, abF, foldl_or_bit, Nat.testBit_two_pow]
    congr 1
    · rw [Bool.eq_iff_iff, decide_eq_true_eq, beq_iff_eq]; exact eq_comm
    · congr 1
      funext p
      exact ofF_bit l f p.toNat k
def ofL (l : List Commit) (n : Nat) : Nat := ofF l n n
theorem ofL_bit (l : List Commit) (n k : Nat) : (ofL l n).testBit k = ab l n k := ofF_bit l n n k
theorem ofL_lt {l : List Commit} (h : DagOk l) {n : Nat} (hn : n < l.length) : ofL l n < 16384 := by
  apply Nat.lt_pow_two_of_testBit (n := 14)
  intro i hi
  rw [ofL_bit]
  cases hb : ab l n i with
  | false => rfl
  | true => have := ab_le h n i hb; have := h.1; omega
end Go.Pch
end

section
namespace Go.Pch
open Go.RowKit
abbrev Blk := Nat → Prop
structure Ty (α : Type) where
  size : Nat
  pos : 0 < size
  rd : World → Blk → List Value → α → Prop
  len : ∀ {w S cs a}, rd w S cs a → cs.length = size
  one : ∀ {w S cs a}, rd w S cs a → ∀ u ∈ cs, u.oneCell' = true
  keep : ∀ {w w' : World} {S cs a}, rd w S cs a → (∀ k, S k → k < w.heap.size → w'.heap[k]? = w.heap[k]?) → rd w' S cs a
  mono : ∀ {w S S' cs a}, rd w S cs a → (∀ k, S k → k < w.heap.size → S' k) → rd w S' cs a
def Ret (w : World) (Q : Value → World → Prop) (e : Ending) (w' : World) : Prop := ∃ v, e = .returned v ∧ Q v w' ∧ Below w.heap.size w w'
theorem keepBack {p : Prop} (h : p) : Hid p := h
def Drawn (w w' : World) : Prop := ∃ n, w' = w.drewN n
theorem Drawn.refl (w : World) : Drawn w w := ⟨0, rfl⟩
theorem Drawn.next {w w' : World} (h : Drawn w w') (m : Nat) : Drawn w (w'.drewN m) := by
  obtain ⟨n, rfl⟩ := h
  exact ⟨n + m, by rw [World.drewN_drewN]⟩
theorem Drawn.trans {w w' w'' : World} (h : Drawn w w') (g : Drawn w' w'') : Drawn w w'' := by
  obtain ⟨n, rfl⟩ := g
  exact h.next n
theorem Drawn.below {w w' : World} (h : Drawn w w') : Below w.heap.size w w' := by
  obtain ⟨n, rfl⟩ := h
  exact below_drewN (Below.refl _ _) n
def Quiet (w : World) (v : Value) (e : Ending) (w' : World) : Prop := e = .returned v ∧ Drawn w w'
theorem quietOf {P : Program} {f : FuncId} {args : Array Value} {w : World} {n : Nat} {v : Value} (h : Calls P f args (w.drewN n) (Quiet (w.drewN n) v)) :
    Calls P f args (w.drewN n) fun e w'' => e = .returned v ∧ ∃ m, w'' = w.drewN m :=
  h.mono fun _ _ ⟨he, m, hm⟩ => ⟨he, n + m, by rw [hm, World.drewN_drewN]⟩
theorem quietEq {P : Program} {f : FuncId} {args : Array Value} {w : World} {n : Nat} {v : Value}
    (h : Calls P f args (w.drewN n) fun e w' => e = .returned v ∧ w.drewN n = w') : Calls P f args (w.drewN n) fun e w'' => e = .returned v ∧ ∃ m, w'' = w.drewN m :=
  h.mono fun _ _ ⟨he, hm⟩ => ⟨he, n, hm.symm⟩
def Ty.flat {α : Type} (n : Nat) (h0 : 0 < n) (f : α → List Value) (ok : α → Prop) (hl : ∀ a, (f a).length = n) (h1 : ∀ a, ∀ u ∈ f a, u.oneCell' = true) : Ty α where
  size := n
  pos := h0
  rd _ _ cs a := cs = f a ∧ ok a
  len := by rintro _ _ _ a ⟨rfl, _⟩; exact hl a
  one := by rintro _ _ _ a ⟨rfl, _⟩; exact h1 a
  keep := by intro _ _ _ _ _ h _; exact h
  mono := by intro _ _ _ _ _ h _; exact h
def i64ok (n : Int) : Prop := -9223372036854775808 ≤ n ∧ n ≤ 9223372036854775807
def tInt : Ty Int := Ty.flat 1 (by decide) (fun n => [.int .i64 n]) i64ok (by intro; rfl) (by intro a u hu; simp at hu; subst hu; rfl)
def tBool : Ty Bool := Ty.flat 1 (by decide) (fun b => [.bool b]) (fun _ => True) (by intro; rfl) (by intro a u hu; simp at hu; subst hu; rfl)
def tRow : Ty Row := Ty.flat 2 (by decide) (fun r => [.int .i64 r.1, .int .i64 r.2]) (fun r => i64ok r.1 ∧ i64ok r.2) (by intro; rfl) (by intro a u hu; simp at hu; rcases hu with rfl | rfl <;> rfl)
def Ty.slice {α : Type} (E : Ty α) : Ty (List α) where
  size := 1
  pos := by decide
  rd w S cs l := ∃ ao len cap, cs = [Value.slice ao len cap] ∧ l.length = len ∧ len ≤ cap ∧ cap ≤ maxLen ∧ (ao = none → cap = 0) ∧
    ∀ i a, l[i]? = some a → ∃ b o, ao = some ⟨b, o, none⟩ ∧ S b ∧ ∃ cs, E.rd w S cs a ∧ ∀ j u, cs[j]? = some u → w.cell? ⟨b, o + i * E.size + j, none⟩ = some u ∧ w.frozen? ⟨b, o + i * E.size + j, none⟩ = false
  len := by rintro _ _ _ _ ⟨_, _, _, rfl, _⟩; rfl
  one := by
    rintro _ _ _ _ ⟨_, _, _, rfl, _⟩ u hu
    simp at hu; subst hu; rfl
  keep := by
    rintro w w' S cs l ⟨ao, len, cap, rfl, h1, h2, h3, h4, h5⟩ hk
    refine ⟨ao, len, cap, rfl, h1, h2, h3, h4, fun i a hi => ?_⟩
    obtain ⟨b, o, hb, hS, cs, hrd, hc⟩ := h5 i a hi
    refine ⟨b, o, hb, hS, cs, E.keep hrd hk, fun j u hj => ?_⟩
    have h := hc j u hj
    have hb := hk b hS (World.block_lt_of_cell? w _ h.1)
    rw [World.cell?_of_block (w := w) hb, World.frozen?_of_block (w := w) hb]
    exact h
  mono := by
    rintro w S S' cs l ⟨ao, len, cap, rfl, h1, h2, h3, h4, h5⟩ hk
    refine ⟨ao, len, cap, rfl, h1, h2, h3, h4, fun i a hi => ?_⟩
    obtain ⟨b, o, hb, hS, cs, hrd, hc⟩ := h5 i a hi
    have h0 : ∃ u, cs[0]? = some u := by
      have := E.len hrd; have := E.pos
      exact ⟨cs[0], List.getElem?_eq_getElem (by omega)⟩
    obtain ⟨u, hu⟩ := h0
    exact ⟨b, o, hb, hk b hS (World.block_lt_of_cell? w _ (hc 0 u hu).1), cs, E.mono hrd hk, hc⟩
def Sl {α : Type} (E : Ty α) (w : World) (S : Blk) (v : Value) (l : List α) : Prop := E.slice.rd w S [v] l
section
variable {α : Type} {E : Ty α} {w w' : World} {S S' : Blk} {v : Value} {l : List α}
theorem Sl.shape (h : Sl E w S v l) : ∃ ao cap, v = .slice ao l.length cap ∧ l.length ≤ cap ∧ cap ≤ maxLen ∧ (ao = none → cap = 0) := by
  obtain ⟨ao, len, cap, hv, h1, h2, h3, h4, _⟩ := h
  simp at hv
  subst h1
  exact ⟨ao, cap, hv, h2, h3, h4⟩
theorem Sl.keep (h : Sl E w S v l) (hk : ∀ k, S k → k < w.heap.size → w'.heap[k]? = w.heap[k]?) : Sl E w' S v l := E.slice.keep h hk
theorem Sl.mono (h : Sl E w S v l) (hk : ∀ k, S k → k < w.heap.size → S' k) : Sl E w S' v l := E.slice.mono h hk
theorem Sl.old (h : Sl E w S v l) : Sl E w (fun k => k < w.heap.size) v l := h.mono fun _ _ hk => hk
theorem Sl.below {B : Nat} (h : Sl E w (fun k => k < B) v l) (hb : Below B w w') : Sl E w' (fun k => k < B) v l := h.keep fun k hk _ => hb.block k hk
theorem Sl.any (h : Sl E w S v l) : Sl E w (fun _ => True) v l := h.mono fun _ _ _ => trivial
theorem Sl.call (h : Sl E w S v l) (hb : Below w.heap.size w w') : Sl E w' S v l := h.keep fun k _ hk => hb.block k hk
theorem Sl.nil (E : Ty α) (w : World) (S : Blk) : Sl E w S (.slice none 0 0) [] :=
  ⟨none, 0, 0, rfl, rfl, Nat.le_refl _, Nat.zero_le _, fun _ => rfl, fun i a h => by simp at h⟩
theorem Sl.get {ao : Option Addr} {len cap : Nat} (h : Sl E w S (.slice ao len cap) l) (i : Nat) (a : α) (hi : l[i]? = some a) :
    ∃ b o cs, ao = some ⟨b, o, none⟩ ∧ S b ∧ b < w.heap.size ∧ E.rd w S cs a ∧ ∀ j u, cs[j]? = some u → w.cell? ⟨b, o + i * E.size + j, none⟩ = some u := by
  obtain ⟨ao', len', cap', hv, h1, h2, h3, h4, h5⟩ := h
  simp at hv
  obtain ⟨rfl, rfl, rfl⟩ := hv
  obtain ⟨b, o, hb, hS, cs, hrd, hc⟩ := h5 i a hi
  have := E.len hrd; have := E.pos
  exact ⟨b, o, cs, hb, hS, World.block_lt_of_cell? w _ (hc 0 cs[0] (List.getElem?_eq_getElem (by omega))).1, hrd, fun j u hj => (hc j u hj).1⟩
end
structure At (P : Program) {α : Type} (E : Ty α) (T e : TypeId) : Prop where
  und : P.underlying T = some (.slice e)
  info : ∃ i z, P.info? e = some i ∧ i.zero = some z ∧ i.size = E.size ∧ z.cells.size = E.size ∧ i.bytes ≤ 64
theorem At.mk' {P : Program} {α : Type} {E : Ty α} {T e : TypeId} {z : Value} {size bytes : Nat} (h : P.underlying T = some (.slice e))
    (hi : (P.info? e).map (fun i => (i.zero, i.size, i.bytes)) = some (some z, size, bytes)) (hs : size = E.size) (hz : z.cells.size = size) (hb : bytes ≤ 64) : At P E T e := by
  obtain ⟨i, h1, h2, h3, h4⟩ := info_parts hi
  exact ⟨h, i, z, h1, h2, h3.trans hs, hz.trans hs, h4 ▸ hb⟩
section
variable {α : Type} {E : Ty α} {w w' : World} {S S' : Blk} {v : Value} {l : List α} {P : Program} {T e : TypeId}
theorem run_idx (hA : At P E T e) {b o len cap : Nat} (n : Int) (i : Nat) (hn : n = (i : Int)) (hi : i < len) (W : World) :
    Sem.run P (Instr.indexAt T (.slice (some ⟨b, o, none⟩) len cap) (.int .i64 n)) W = .ok (.pointer (some ⟨b, o + i * E.size, none⟩)) W := by
  obtain ⟨q, z, h1, h2, h3, h4, h5⟩ := hA.info
  subst hn
  simp [Instr.indexAt, asIntOf, run_underlying hA.und, sizeOf, typeInfo, h1, hi, h3, Addr.add_lit]
theorem Sl.idx (h : Sl E w S v l) (hA : At P E T e) (n : Int) (i : Nat) (hn : n = (i : Int)) (hi : i < l.length) :
    ∃ b o cs, (∀ W, Sem.run P (Instr.indexAt T v (.int .i64 n)) W = .ok (.pointer (some ⟨b, o, none⟩)) W) ∧ S b ∧ b < w.heap.size ∧ E.rd w S cs l[i] ∧
      ∀ j u, cs[j]? = some u → w.cell? ⟨b, o + j, none⟩ = some u := by
  obtain ⟨ao, cap, rfl, hcap, hmax, hnil⟩ := h.shape
  obtain ⟨b, o, cs, rfl, hS, hb, hrd, hc⟩ := h.get i l[i] (List.getElem?_eq_getElem hi)
  exact ⟨b, o + i * E.size, cs, fun W => run_idx hA n i hn hi W, hS, hb, hrd, hc⟩
theorem Sl.idxRow {v : Value} {l : List Row} (h : Sl tRow w S v l) (hA : At P tRow T e) (n : Int) (i : Nat) (hn : n = (i : Int)) (hi : i < l.length) :
    ∃ b o, (∀ W, Sem.run P (Instr.indexAt T v (.int .i64 n)) W = .ok (.pointer (some ⟨b, o, none⟩)) W) ∧ S b ∧ b < w.heap.size ∧ i64ok l[i].1 ∧ i64ok l[i].2 ∧
      w.cell? ⟨b, o, none⟩ = some (.int .i64 l[i].1) ∧ w.cell? ⟨b, o + 1, none⟩ = some (.int .i64 l[i].2) := by
  obtain ⟨b, o, cs, h1, h2, h3, ⟨rfl, h5, h6⟩, h7⟩ := h.idx hA n i hn hi
  exact ⟨b, o, h1, h2, h3, h5, h6, by simpa using h7 0 _ rfl, h7 1 _ rfl⟩
end
end Go.Pch
end
