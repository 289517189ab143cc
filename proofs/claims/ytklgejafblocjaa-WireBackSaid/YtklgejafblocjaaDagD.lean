/- Plain words of chapter 8 (commits) on lists; no program is named here. -/
import Derived.Test.YtklgejafblocjaaData
namespace Go.Pch

/-- A commit: its rows, its parents. -/
abbrev Commit := List Row × List Int

/-- Parents rise behind 'last', below n. -/
def risePB (n : Int) : Int → List Int → Bool
  | _, [] => true
  | last, p :: l => !(decide (p ≤ last) || decide (n ≤ p)) && risePB n p l
/-- H1, of one commit, whose number is n. -/
def commitErr (n : Int) (c : Commit) : Int := if rowsErr c.1 ≠ 0 then rowsErr c.1 else if decide (c.2.length ≤ 2) && risePB n (-1) c.2 then 0 else 1
/-- H1, from number n on. -/
def commitsFrom : Int → List Commit → Int
  | _, [] => 0
  | n, c :: l => if commitErr n c ≠ 0 then commitErr n c else commitsFrom (n + 1) l
/-- H1. -/
def commitsErr (l : List Commit) : Int := if 14 < l.length then 2 else commitsFrom 0 l

theorem risePB_cons {n last p : Int} {l : List Int} : risePB n last (p :: l) = true ↔ (last < p ∧ p < n) ∧ risePB n p l = true := by
  simp only [risePB, Bool.and_eq_true, Bool.not_eq_true', Bool.or_eq_false_iff, decide_eq_false_iff_not, Int.not_le]
theorem risePB_go {n m : Int} {l : List Int} {k : Nat} (hk : k < l.length) (h : m < l[k] ∧ l[k] < n) : risePB n m (l.drop k) = risePB n l[k] (l.drop (k + 1)) := by
  rw [List.drop_eq_getElem_cons hk, Bool.eq_iff_iff, risePB_cons]
  exact ⟨fun h => h.2, fun g => ⟨h, g⟩⟩
theorem risePB_stop {n m : Int} {l : List Int} {k : Nat} (hk : k < l.length) (h : l[k] ≤ m ∨ n ≤ l[k]) : risePB n m (l.drop k) = false := by
  rw [List.drop_eq_getElem_cons hk, Bool.eq_false_iff]
  intro g
  have := (risePB_cons.1 g).1
  omega
theorem risePB_end {n m : Int} {l : List Int} {k : Nat} (hk : ¬ k < l.length) : risePB n m (l.drop k) = true := by
  rw [List.drop_of_length_le (by omega)]; rfl

theorem commitsFrom_go {l : List Commit} {k : Nat} (hk : k < l.length) (h : commitErr (k : Int) l[k] = 0) : commitsFrom (k : Int) (l.drop k) = commitsFrom ((k + 1 : Nat) : Int) (l.drop (k + 1)) := by
  rw [List.drop_eq_getElem_cons hk, commitsFrom, if_neg (by simpa using h)]
  congr 1
theorem commitsFrom_stop {l : List Commit} {k : Nat} (hk : k < l.length) (h : commitErr (k : Int) l[k] ≠ 0) : commitsFrom (k : Int) (l.drop k) = commitErr (k : Int) l[k] := by
  rw [List.drop_eq_getElem_cons hk, commitsFrom, if_pos h]
theorem commitsFrom_end {l : List Commit} {k : Nat} (hk : ¬ k < l.length) (n : Int) : commitsFrom n (l.drop k) = 0 := by
  rw [List.drop_of_length_le (by omega)]; rfl

/-- The parents of number n. -/
def pars (l : List Commit) (n : Nat) : List Int := (l[n]?.getD ([], [])).2

/-- Are all commits right? -/
def DagOk (l : List Commit) : Prop := l.length ≤ 14 ∧ ∀ (n : Nat) (c : Commit), l[n]? = some c → rowsErr c.1 = 0 ∧ c.2.length ≤ 2 ∧ risePB n (-1) c.2 = true
theorem commitErr_zero {n : Int} {c : Commit} (h : commitErr n c = 0) : rowsErr c.1 = 0 ∧ c.2.length ≤ 2 ∧ risePB n (-1) c.2 = true := by
  unfold commitErr at h
  split at h
  · rename_i h1; exact absurd h h1
  · rename_i h1
    split at h
    · rename_i h2
      simp only [Bool.and_eq_true, decide_eq_true_eq] at h2
      exact ⟨by simpa using h1, h2.1, h2.2⟩
    · cases h
theorem commitsFrom_zero : ∀ (l : List Commit) (m : Nat), commitsFrom m l = 0 → ∀ n c, l[n]? = some c → commitErr ((m + n : Nat) : Int) c = 0
  | [], _, _, n, c, hc => by simp at hc
  | d :: l, m, h, n, c, hc => by
    rw [commitsFrom] at h
    split at h
    · rename_i h1; exact absurd h h1
    · rename_i h1
      cases n with
      | zero => simp at hc; subst hc; simpa using h1
      | succ n =>
        have := commitsFrom_zero l (m + 1) (by simpa using h) n c (by simpa using hc)
        rwa [show m + (n + 1) = m + 1 + n by omega]
theorem dag_ok {l : List Commit} (h : commitsErr l = 0) : DagOk l := by
  unfold commitsErr at h
  split at h
  · cases h
  · refine ⟨by omega, fun n c hc => ?_⟩
    have := commitsFrom_zero l 0 h n c hc
    rw [Nat.zero_add] at this
    exact commitErr_zero this

theorem risePB_mem {n : Int} : ∀ {l : List Int} {last : Int}, risePB n last l = true → ∀ p ∈ l, last < p ∧ p < n
  | [], _, _, p, hp => by simp at hp
  | q :: l, last, h, p, hp => by
    rw [risePB_cons] at h
    rcases List.mem_cons.1 hp with rfl | hp
    · exact h.1
    · have := risePB_mem h.2 p hp
      omega
theorem pars_lt {l : List Commit} (h : DagOk l) {n : Nat} {p : Int} (hp : p ∈ pars l n) : 0 ≤ p ∧ p < n ∧ n < l.length := by
  unfold pars at hp
  cases hc : l[n]? with
  | none => simp [hc] at hp
  | some c =>
    rw [hc] at hp
    have := risePB_mem (h.2 n c hc).2.2 p hp
    have := (List.getElem?_eq_some_iff.1 hc).1
    omega

/-- Is k above n (f: fuel)? -/
def abF (l : List Commit) : Nat → Nat → Nat → Bool
  | 0, n, k => k == n
  | f + 1, n, k => k == n || (pars l n).any fun p => abF l f p.toNat k
/-- H2: is k above n: is it n, or a parent of one that is? -/
def ab (l : List Commit) (n k : Nat) : Bool := abF l n n k

theorem abF_more {l : List Commit} (h : DagOk l) : ∀ (f g n k : Nat), n ≤ f → n ≤ g → abF l f n k = abF l g n k
  | 0, 0, _, _, _, _ => rfl
  | 0, g + 1, n, k, h1, _ => by
    obtain rfl : n = 0 := by omega
    have : pars l 0 = [] := by
      cases hp : pars l 0 with
      | nil => rfl
      | cons p _ => have := pars_lt h (n := 0) (p := p) (by rw [hp]; simp); omega
    simp [abF, this]
  | f + 1, 0, n, k, _, h2 => by
    obtain rfl : n = 0 := by omega
    have : pars l 0 = [] := by
      cases hp : pars l 0 with
      | nil => rfl
      | cons p _ => have := pars_lt h (n := 0) (p := p) (by rw [hp]; simp); omega
    simp [abF, this]
  | f + 1, g + 1, n, k, h1, h2 => by
    rw [abF, abF]
    congr 1
    rw [Bool.eq_iff_iff, List.any_eq_true, List.any_eq_true]
    constructor
    · rintro ⟨p, hp, hk⟩
      have := pars_lt h hp
      exact ⟨p, hp, by rw [← abF_more h f g p.toNat k (by omega) (by omega)]; exact hk⟩
    · rintro ⟨p, hp, hk⟩
      have := pars_lt h hp
      exact ⟨p, hp, by rw [abF_more h f g p.toNat k (by omega) (by omega)]; exact hk⟩
theorem ab_eq {l : List Commit} (h : DagOk l) (n k : Nat) : ab l n k = (k == n || (pars l n).any fun p => ab l p.toNat k) := by
  rw [ab, abF_more h n (n + 1) n k (by omega) (by omega), abF]
  congr 1
  rw [Bool.eq_iff_iff, List.any_eq_true, List.any_eq_true]
  constructor
  · rintro ⟨p, hp, hk⟩
    have := pars_lt h hp
    exact ⟨p, hp, by rw [ab, abF_more h _ n _ _ (by omega) (by omega)]; exact hk⟩
  · rintro ⟨p, hp, hk⟩
    have := pars_lt h hp
    exact ⟨p, hp, by rw [ab, abF_more h _ n _ _ (by omega) (by omega)] at hk; exact hk⟩
theorem ab_self {l : List Commit} (h : DagOk l) (n : Nat) : ab l n n = true := by rw [ab_eq h]; simp
theorem ab_le {l : List Commit} (h : DagOk l) : ∀ (n k : Nat), ab l n k = true → k ≤ n := by
  intro n
  induction n using Nat.strongRecOn with
  | _ n ih =>
    intro k hk
    rw [ab_eq h, Bool.or_eq_true, List.any_eq_true] at hk
    rcases hk with hk | ⟨p, hp, hk⟩
    · simp at hk; omega
    · have := pars_lt h hp
      have := ih p.toNat (by omega) k hk
      omega
theorem ab_trans {l : List Commit} (h : DagOk l) : ∀ (n k m : Nat), ab l n k = true → ab l k m = true → ab l n m = true := by
  intro n
  induction n using Nat.strongRecOn with
  | _ n ih =>
    intro k m hk hm
    rw [ab_eq h, Bool.or_eq_true, List.any_eq_true] at hk
    rcases hk with hk | ⟨p, hp, hk⟩
    · simp at hk; subst hk; exact hm
    · have := pars_lt h hp
      rw [ab_eq h, Bool.or_eq_true, List.any_eq_true]
      exact .inr ⟨p, hp, ih p.toNat (by omega) k m hk hm⟩
/-- The last step: who is above n, and is not n, is a parent of one that is above n. -/
theorem ab_last {l : List Commit} (h : DagOk l) : ∀ (n k : Nat), ab l n k = true → k = n ∨ ∃ i, ab l n i = true ∧ (k : Int) ∈ pars l i := by
  intro n
  induction n using Nat.strongRecOn with
  | _ n ih =>
    intro k hk
    rw [ab_eq h, Bool.or_eq_true, List.any_eq_true] at hk
    rcases hk with hk | ⟨p, hp, hk⟩
    · exact .inl (by simpa using hk)
    · have hl := pars_lt h hp
      right
      have hpn : ab l n p.toNat = true := by rw [ab_eq h, Bool.or_eq_true, List.any_eq_true]; exact .inr ⟨p, hp, ab_self h _⟩
      rcases ih p.toNat (by omega) k hk with rfl | ⟨i, hi, hki⟩
      · exact ⟨n, ab_self h n, by rw [Int.toNat_of_nonneg hl.1]; exact hp⟩
      · exact ⟨i, ab_trans h n p.toNat i hpn hi, hki⟩
theorem ab_step {l : List Commit} (h : DagOk l) {n i : Nat} {p : Int} (hi : ab l n i = true) (hp : p ∈ pars l i) : ab l n p.toNat = true :=
  ab_trans h n i p.toNat hi (by rw [ab_eq h, Bool.or_eq_true, List.any_eq_true]; exact .inr ⟨p, hp, ab_self h _⟩)

/-- H2: Above's answer, of right commits. -/
def aboveL (l : List Commit) (n : Nat) : List Bool := (List.range l.length).map (ab l n)
/-- H2: Bases, of right commits: both's, and above no other one that is. -/
def baseB (l : List Commit) (a b k : Nat) : Bool := ab l a k && ab l b k && !((List.range l.length).any fun i => decide (k < i) && (ab l a i && ab l b i) && ab l i k)
def basesL (l : List Commit) (a b : Nat) : List Int := ((List.range l.length).filter (baseB l a b)).map Int.ofNat
/-- Check, and is there such a commit? -/
def thereErr (l : List Commit) (n : Int) : Int := if commitsErr l ≠ 0 then commitsErr l else if decide (0 ≤ n) && decide (n < l.length) then 0 else 5

/-- The set of those above n, as a number (f: fuel). -/
def ofF (l : List Commit) : Nat → Nat → Nat
  | 0, n => 2 ^ n
  | f + 1, n => (pars l n).foldl (fun s p => s ||| ofF l f p.toNat) (2 ^ n)
theorem foldl_or_bit (f : Int → Nat) (k : Nat) : ∀ (l : List Int) (s : Nat), (l.foldl (fun s p => s ||| f p) s).testBit k = (s.testBit k || l.any fun p => (f p).testBit k)
  | [], s => by simp
  | p :: l, s => by
    rw [List.foldl_cons, foldl_or_bit f k l, Nat.testBit_or, List.any_cons, Bool.or_assoc]
theorem ofF_bit (l : List Commit) : ∀ (f n k : Nat), (ofF l f n).testBit k = abF l f n k
  | 0, n, k => by
    rw [ofF, abF, Nat.testBit_two_pow, Bool.eq_iff_iff, decide_eq_true_eq, beq_iff_eq]
    exact eq_comm
  | f + 1, n, k => by
    rw [ofF, abF, foldl_or_bit, Nat.testBit_two_pow]
    congr 1
    · rw [Bool.eq_iff_iff, decide_eq_true_eq, beq_iff_eq]; exact eq_comm
    · congr 1
      funext p
      exact ofF_bit l f p.toNat k
def ofL (l : List Commit) (n : Nat) : Nat := ofF l n n
theorem ofL_bit (l : List Commit) (n k : Nat) : (ofL l n).testBit k = ab l n k := ofF_bit l n n k
theorem ofL_lt {l : List Commit} (h : DagOk l) {n : Nat} (hn : n < l.length) : ofL l n < 16384 := by
  apply Nat.lt_pow_two_of_testBit (n := 14)
  intro i hi
  rw [ofL_bit]
  cases hb : ab l n i with
  | false => rfl
  | true => have := ab_le h n i hb; have := h.1; omega

end Go.Pch
