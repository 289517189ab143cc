/- Plain words of chapter 8 (commits) on lists; no program is named here. Pairs of values; commits; the types of chapter 8. The walks of package rows. -/
import Derived.Test.YtdclpbdmdpakkaaGreatLb1
import Derived.Test.YtdclpbdmdpakkaaGreatLb2
import Derived.Laws.MakeOwn
import Derived.Test.YtdclpbdmdpakkaaGreatChecked
section
namespace Go.Pch

/-- A commit: its rows, its parents. -/
abbrev Commit := List Row × List Int

/-- Parents rise behind 'last', below n. -/
def risePB (n : Int) : Int → List Int → Bool
  | _, [] => true
  | last, p :: l => !(decide (p ≤ last) || decide (n ≤ p)) && risePB n p l
/-- H1, of one commit, whose number is n. -/
def commitErr (n : Int) (c : Commit) : Int := if rowsErr c.1 ≠ 0 then rowsErr c.1 else if decide (c.2.length ≤ 2) && risePB n (-1) c.2 then 0 else 1
/-- H1, from number n on. -/
def commitsFrom : Int → List Commit → Int
  | _, [] => 0
  | n, c :: l => if commitErr n c ≠ 0 then commitErr n c else commitsFrom (n + 1) l
/-- H1. -/
def commitsErr (l : List Commit) : Int := if 14 < l.length then 2 else commitsFrom 0 l

theorem risePB_cons {n last p : Int} {l : List Int} : risePB n last (p :: l) = true ↔ (last < p ∧ p < n) ∧ risePB n p l = true := by
  simp only [risePB, Bool.and_eq_true, Bool.not_eq_true', Bool.or_eq_false_iff, decide_eq_false_iff_not, Int.not_le]
theorem risePB_go {n m : Int} {l : List Int} {k : Nat} (hk : k < l.length) (h : m < l[k] ∧ l[k] < n) : risePB n m (l.drop k) = risePB n l[k] (l.drop (k + 1)) := by
  rw [List.drop_eq_getElem_cons hk, Bool.eq_iff_iff, risePB_cons]
  exact ⟨fun h => h.2, fun g => ⟨h, g⟩⟩
theorem risePB_stop {n m : Int} {l : List Int} {k : Nat} (hk : k < l.length) (h : l[k] ≤ m ∨ n ≤ l[k]) : risePB n m (l.drop k) = false := by
  rw [List.drop_eq_getElem_cons hk, Bool.eq_false_iff]
  intro g
  have := (risePB_cons.1 g).1
  omega
theorem risePB_end {n m : Int} {l : List Int} {k : Nat} (hk : ¬ k < l.length) : risePB n m (l.drop k) = true := by
  rw [List.drop_of_length_le (by omega)]; rfl

theorem commitsFrom_go {l : List Commit} {k : Nat} (hk : k < l.length) (h : commitErr (k : Int) l[k] = 0) : commitsFrom (k : Int) (l.drop k) = commitsFrom ((k + 1 : Nat) : Int) (l.drop (k + 1)) := by
  rw [List.drop_eq_getElem_cons hk, commitsFrom, if_neg (by simpa using h)]
  congr 1
theorem commitsFrom_stop {l : List Commit} {k : Nat} (hk : k < l.length) (h : commitErr (k : Int) l[k] ≠ 0) : commitsFrom (k : Int) (l.drop k) = commitErr (k : Int) l[k] := by
  rw [List.drop_eq_getElem_cons hk, commitsFrom, if_pos h]
theorem commitsFrom_end {l : List Commit} {k : Nat} (hk : ¬ k < l.length) (n : Int) : commitsFrom n (l.drop k) = 0 := by
  rw [List.drop_of_length_le (by omega)]; rfl

/-- The parents of number n. -/
def pars (l : List Commit) (n : Nat) : List Int := (l[n]?.getD ([], [])).2

/-- Are all commits right? -/
def DagOk (l : List Commit) : Prop := l.length ≤ 14 ∧ ∀ (n : Nat) (c : Commit), l[n]? = some c → rowsErr c.1 = 0 ∧ c.2.length ≤ 2 ∧ risePB n (-1) c.2 = true
theorem commitErr_zero {n : Int} {c : Commit} (h : commitErr n c = 0) : rowsErr c.1 = 0 ∧ c.2.length ≤ 2 ∧ risePB n (-1) c.2 = true := by
  unfold commitErr at h
  split at h
  · rename_i h1; exact absurd h h1
  · rename_i h1
    split at h
    · rename_i h2
      simp only [Bool.and_eq_true, decide_eq_true_eq] at h2
      exact ⟨by simpa using h1, h2.1, h2.2⟩
    · cases h
theorem commitsFrom_zero : ∀ (l : List Commit) (m : Nat), commitsFrom m l = 0 → ∀ n c, l[n]? = some c → commitErr ((m + n : Nat) : Int) c = 0
  | [], _, _, n, c, hc => by simp at hc
  | d :: l, m, h, n, c, hc => by
    rw [commitsFrom] at h
    split at h
    · rename_i h1; exact absurd h h1
    · rename_i h1
      cases n with
      | zero => simp at hc; subst hc; simpa using h1
      | succ n =>
        have := commitsFrom_zero l (m + 1) (by simpa using h) n c (by simpa using hc)
        rwa [show m + (n + 1) = m + 1 + n by omega]
theorem dag_ok {l : List Commit} (h : commitsErr l = 0) : DagOk l := by
  unfold commitsErr at h
  split at h
  · cases h
  · refine ⟨by omega, fun n c hc => ?_⟩
    have := commitsFrom_zero l 0 h n c hc
    rw [Nat.zero_add] at this
    exact commitErr_zero this

theorem risePB_mem {n : Int} : ∀ {l : List Int} {last : Int}, risePB n last l = true → ∀ p ∈ l, last < p ∧ p < n
  | [], _, _, p, hp => by simp at hp
  | q :: l, last, h, p, hp => by
    rw [risePB_cons] at h
    rcases List.mem_cons.1 hp with rfl | hp
    · exact h.1
    · have := risePB_mem h.2 p hp
      omega
theorem pars_lt {l : List Commit} (h : DagOk l) {n : Nat} {p : Int} (hp : p ∈ pars l n) : 0 ≤ p ∧ p < n ∧ n < l.length := by
  unfold pars at hp
  cases hc : l[n]? with
  | none => simp [hc] at hp
  | some c =>
    rw [hc] at hp
    have := risePB_mem (h.2 n c hc).2.2 p hp
    have := (List.getElem?_eq_some_iff.1 hc).1
    omega

/-- Is k above n (f: fuel)? -/
def abF (l : List Commit) : Nat → Nat → Nat → Bool
  | 0, n, k => k == n
  | f + 1, n, k => k == n || (pars l n).any fun p => abF l f p.toNat k
/-- H2: is k above n: is it n, or a parent of one that is? -/
def ab (l : List Commit) (n k : Nat) : Bool := abF l n n k

theorem abF_more {l : List Commit} (h : DagOk l) : ∀ (f g n k : Nat), n ≤ f → n ≤ g → abF l f n k = abF l g n k
  | 0, 0, _, _, _, _ => rfl
  | 0, g + 1, n, k, h1, _ => by
    obtain rfl : n = 0 := by omega
    have : pars l 0 = [] := by
      cases hp : pars l 0 with
      | nil => rfl
      | cons p _ => have := pars_lt h (n := 0) (p := p) (by rw [hp]; simp); omega
    simp [abF, this]
  | f + 1, 0, n, k, _, h2 => by
    obtain rfl : n = 0 := by omega
    have : pars l 0 = [] := by
      cases hp : pars l 0 with
      | nil => rfl
      | cons p _ => have := pars_lt h (n := 0) (p := p) (by rw [hp]; simp); omega
    simp [abF, this]
  | f + 1, g + 1, n, k, h1, h2 => by
    rw [abF, abF]
    congr 1
    rw [Bool.eq_iff_iff, List.any_eq_true, List.any_eq_true]
    constructor
    · rintro ⟨p, hp, hk⟩
      have := pars_lt h hp
      exact ⟨p, hp, by rw [← abF_more h f g p.toNat k (by omega) (by omega)]; exact hk⟩
    · rintro ⟨p, hp, hk⟩
      have := pars_lt h hp
      exact ⟨p, hp, by rw [abF_more h f g p.toNat k (by omega) (by omega)]; exact hk⟩
theorem ab_eq {l : List Commit} (h : DagOk l) (n k : Nat) : ab l n k = (k == n || (pars l n).any fun p => ab l p.toNat k) := by
  rw [ab, abF_more h n (n + 1) n k (by omega) (by omega), abF]
  congr 1
  rw [Bool.eq_iff_iff, List.any_eq_true, List.any_eq_true]
  constructor
  · rintro ⟨p, hp, hk⟩
    have := pars_lt h hp
    exact ⟨p, hp, by rw [ab, abF_more h _ n _ _ (by omega) (by omega)]; exact hk⟩
  · rintro ⟨p, hp, hk⟩
    have := pars_lt h hp
    exact ⟨p, hp, by rw [ab, abF_more h _ n _ _ (by omega) (by omega)] at hk; exact hk⟩
theorem ab_self {l : List Commit} (h : DagOk l) (n : Nat) : ab l n n = true := by rw [ab_eq h]; simp
theorem ab_le {l : List Commit} (h : DagOk l) : ∀ (n k : Nat), ab l n k = true → k ≤ n := by
  intro n
  induction n using Nat.strongRecOn with
  | _ n ih =>
    intro k hk
    rw [ab_eq h, Bool.or_eq_true, List.any_eq_true] at hk
    rcases hk with hk | ⟨p, hp, hk⟩
    · simp at hk; omega
    · have := pars_lt h hp
      have := ih p.toNat (by omega) k hk
      omega
theorem ab_trans {l : List Commit} (h : DagOk l) : ∀ (n k m : Nat), ab l n k = true → ab l k m = true → ab l n m = true := by
  intro n
  induction n using Nat.strongRecOn with
  | _ n ih =>
    intro k m hk hm
    rw [ab_eq h, Bool.or_eq_true, List.any_eq_true] at hk
    rcases hk with hk | ⟨p, hp, hk⟩
    · simp at hk; subst hk; exact hm
    · have := pars_lt h hp
      rw [ab_eq h, Bool.or_eq_true, List.any_eq_true]
      exact .inr ⟨p, hp, ih p.toNat (by omega) k m hk hm⟩
/-- The last step: who is above n, and is not n, is a parent of one that is above n. -/
theorem ab_last {l : List Commit} (h : DagOk l) : ∀ (n k : Nat), ab l n k = true → k = n ∨ ∃ i, ab l n i = true ∧ (k : Int) ∈ pars l i := by
  intro n
  induction n using Nat.strongRecOn with
  | _ n ih =>
    intro k hk
    rw [ab_eq h, Bool.or_eq_true, List.any_eq_true] at hk
    rcases hk with hk | ⟨p, hp, hk⟩
    · exact .inl (by simpa using hk)
    · have hl := pars_lt h hp
      right
      have hpn : ab l n p.toNat = true := by rw [ab_eq h, Bool.or_eq_true, List.any_eq_true]; exact .inr ⟨p, hp, ab_self h _⟩
      rcases ih p.toNat (by omega) k hk with rfl | ⟨i, hi, hki⟩
      · exact ⟨n, ab_self h n, by rw [Int.toNat_of_nonneg hl.1]; exact hp⟩
      · exact ⟨i, ab_trans h n p.toNat i hpn hi, hki⟩
theorem ab_step {l : List Commit} (h : DagOk l) {n i : Nat} {p : Int} (hi : ab l n i = true) (hp : p ∈ pars l i) : ab l n p.toNat = true :=
  ab_trans h n i p.toNat hi (by rw [ab_eq h, Bool.or_eq_true, List.any_eq_true]; exact .inr ⟨p, hp, ab_self h _⟩)

/-- H2: Above's answer, of right commits. -/
def aboveL (l : List Commit) (n : Nat) : List Bool := (List.range l.length).map (ab l n)
/-- H2: Bases, of right commits: both's, and above no other one that is. -/
def baseB (l : List Commit) (a b k : Nat) : Bool := ab l a k && ab l b k && !((List.range l.length).any fun i => decide (k < i) && (ab l a i && ab l b i) && ab l i k)
def basesL (l : List Commit) (a b : Nat) : List Int := ((List.range l.length).filter (baseB l a b)).map Int.ofNat
/-- Check, and is there such a commit? -/
def thereErr (l : List Commit) (n : Int) : Int := if commitsErr l ≠ 0 then commitsErr l else if decide (0 ≤ n) && decide (n < l.length) then 0 else 5

/-- The set of those above n, as a number (f: fuel). -/
def ofF (l : List Commit) : Nat → Nat → Nat
  | 0, n => 2 ^ n
  | f + 1, n => (pars l n).foldl (fun s p => s ||| ofF l f p.toNat) (2 ^ n)
theorem foldl_or_bit (f : Int → Nat) (k : Nat) : ∀ (l : List Int) (s : Nat), (l.foldl (fun s p => s ||| f p) s).testBit k = (s.testBit k || l.any fun p => (f p).testBit k)
  | [], s => by simp
  | p :: l, s => by
    rw [List.foldl_cons, foldl_or_bit f k l, Nat.testBit_or, List.any_cons, Bool.or_assoc]
theorem ofF_bit (l : List Commit) : ∀ (f n k : Nat), (ofF l f n).testBit k = abF l f n k
  | 0, n, k => by
    rw [ofF, abF, Nat.testBit_two_pow, Bool.eq_iff_iff, decide_eq_true_eq, beq_iff_eq]
    exact eq_comm
  | f + 1, n, k => by
    rw [ofF, abF, foldl_or_bit, Nat.testBit_two_pow]
    congr 1
    · rw [Bool.eq_iff_iff, decide_eq_true_eq, beq_iff_eq]; exact eq_comm
    · congr 1
      funext p
      exact ofF_bit l f p.toNat k
def ofL (l : List Commit) (n : Nat) : Nat := ofF l n n
theorem ofL_bit (l : List Commit) (n k : Nat) : (ofL l n).testBit k = ab l n k := ofF_bit l n n k
theorem ofL_lt {l : List Commit} (h : DagOk l) {n : Nat} (hn : n < l.length) : ofL l n < 16384 := by
  apply Nat.lt_pow_two_of_testBit (n := 14)
  intro i hi
  rw [ofL_bit]
  cases hb : ab l n i with
  | false => rfl
  | true => have := ab_le h n i hb; have := h.1; omega

end Go.Pch
end

section
namespace Go.Pch
open Go.RowKit

/-- Two values in a row. -/
def Ty.pair {α β : Type} (E : Ty α) (F : Ty β) : Ty (α × β) where
  size := E.size + F.size
  pos := by have := E.pos; omega
  rd w S cs a := ∃ x y, cs = x ++ y ∧ E.rd w S x a.1 ∧ F.rd w S y a.2
  len := by rintro _ _ _ a ⟨x, y, rfl, h1, h2⟩; rw [List.length_append, E.len h1, F.len h2]
  one := by
    rintro _ _ _ a ⟨x, y, rfl, h1, h2⟩ u hu
    rcases List.mem_append.1 hu with hu | hu
    · exact E.one h1 u hu
    · exact F.one h2 u hu
  keep := by rintro _ _ _ _ a ⟨x, y, rfl, h1, h2⟩ hk; exact ⟨x, y, rfl, E.keep h1 hk, F.keep h2 hk⟩
  mono := by rintro _ _ _ _ a ⟨x, y, rfl, h1, h2⟩ hk; exact ⟨x, y, rfl, E.mono h1 hk, F.mono h2 hk⟩

def tCommit : Ty Commit := tRow.slice.pair tInt.slice

section
variable {w : World} {S : Blk} {v : Value} {P : Program} {T e : TypeId}
theorem rd_slice {α : Type} {E : Ty α} {cs : List Value} {l : List α} (h : E.slice.rd w S cs l) : ∃ x, cs = [x] ∧ Sl E w S x l := by
  obtain ⟨ao, len, cap, rfl, h'⟩ := h
  exact ⟨_, rfl, ao, len, cap, rfl, h'⟩
theorem rd_commit {cs : List Value} {c : Commit} (h : tCommit.rd w S cs c) : ∃ x y, cs = [x, y] ∧ Sl tRow w S x c.1 ∧ Sl tInt w S y c.2 := by
  obtain ⟨x, y, rfl, h1, h2⟩ := h
  obtain ⟨x, rfl, h1⟩ := rd_slice h1
  obtain ⟨y, rfl, h2⟩ := rd_slice h2
  exact ⟨x, y, rfl, h1, h2⟩
theorem Sl.idxInt {l : List Int} (h : Sl tInt w S v l) (hA : At P tInt T e) (n : Int) (i : Nat) (hn : n = (i : Int)) (hi : i < l.length) :
    ∃ b o, (∀ W, Sem.run P (Instr.indexAt T v (.int .i64 n)) W = .ok (.pointer (some ⟨b, o, none⟩)) W) ∧ S b ∧ b < w.heap.size ∧ i64ok l[i] ∧ w.cell? ⟨b, o, none⟩ = some (.int .i64 l[i]) := by
  obtain ⟨b, o, cs, h1, h2, h3, ⟨rfl, h5⟩, h7⟩ := h.idx hA n i hn hi
  exact ⟨b, o, h1, h2, h3, h5, by simpa using h7 0 _ rfl⟩
theorem Sl.idxBool {l : List Bool} (h : Sl tBool w S v l) (hA : At P tBool T e) (n : Int) (i : Nat) (hn : n = (i : Int)) (hi : i < l.length) :
    ∃ b o, (∀ W, Sem.run P (Instr.indexAt T v (.int .i64 n)) W = .ok (.pointer (some ⟨b, o, none⟩)) W) ∧ S b ∧ b < w.heap.size ∧ w.cell? ⟨b, o, none⟩ = some (.bool l[i]) := by
  obtain ⟨b, o, cs, h1, h2, h3, ⟨rfl, h5⟩, h7⟩ := h.idx hA n i hn hi
  exact ⟨b, o, h1, h2, h3, by simpa using h7 0 _ rfl⟩
theorem Sl.idxCommit {l : List Commit} (h : Sl tCommit w S v l) (hA : At P tCommit T e) (n : Int) (i : Nat) (hn : n = (i : Int)) (hi : i < l.length) :
    ∃ b o x y, (∀ W, Sem.run P (Instr.indexAt T v (.int .i64 n)) W = .ok (.pointer (some ⟨b, o, none⟩)) W) ∧ S b ∧ b < w.heap.size ∧ Sl tRow w S x l[i].1 ∧ Sl tInt w S y l[i].2 ∧
      w.cell? ⟨b, o, none⟩ = some x ∧ w.cell? ⟨b, o + 1, none⟩ = some y := by
  obtain ⟨b, o, cs, h1, h2, h3, h5, h7⟩ := h.idx hA n i hn hi
  obtain ⟨x, y, rfl, hx, hy⟩ := rd_commit h5
  exact ⟨b, o, x, y, h1, h2, h3, hx, hy, by simpa using h7 0 _ rfl, h7 1 _ rfl⟩
/-- With the two's shapes. -/
theorem Sl.idxCommitAt {l : List Commit} (h : Sl tCommit w S v l) (hA : At P tCommit T e) (n : Int) (i : Nat) (hn : n = (i : Int)) (hi : i < l.length) (r : List Row) (p : List Int) (hr : l[i] = (r, p)) :
    ∃ b o a1 c1 a2 c2, (∀ W, Sem.run P (Instr.indexAt T v (.int .i64 n)) W = .ok (.pointer (some ⟨b, o, none⟩)) W) ∧ S b ∧ b < w.heap.size ∧ Sl tRow w S (.slice a1 r.length c1) r ∧ Sl tInt w S (.slice a2 p.length c2) p ∧
      r.length ≤ c1 ∧ c1 ≤ 9223372036854775807 ∧ p.length ≤ c2 ∧ c2 ≤ 9223372036854775807 ∧
      w.cell? ⟨b, o, none⟩ = some (.slice a1 r.length c1) ∧ w.cell? ⟨b, o + 1, none⟩ = some (.slice a2 p.length c2) := by
  obtain ⟨b, o, x, y, h1, h2, h3, hx, hy, hc1, hc2⟩ := h.idxCommit hA n i hn hi
  rw [hr] at hx hy
  obtain ⟨a1, c1, rfl, q1, q2, _⟩ := hx.shape
  obtain ⟨a2, c2, rfl, q3, q4, _⟩ := hy.shape
  unfold maxLen at q2 q4
  exact ⟨b, o, a1, c1, a2, c2, h1, h2, h3, hx, hy, q1, by omega, q3, by omega, hc1, hc2⟩
end

/-- A struct of two in a new box: over a call. -/
theorem boxed2 {w w1 : World} {a b : Value} {t : TypeId} (hb : Below (w.alloc (.cells #[a, b] t)).heap.size (w.alloc (.cells #[a, b] t)) w1) :
    w1.cell? ⟨w.heap.size, 0, none⟩ = some a ∧ w1.cell? ⟨w.heap.size, 1, none⟩ = some b ∧ Below w.heap.size w w1 := by
  refine ⟨(hb.cell (p := ⟨w.heap.size, 0, none⟩) (by simp)).trans ?_, (hb.cell (p := ⟨w.heap.size, 1, none⟩) (by simp)).trans ?_, ((Below.refl _ _).alloc (Nat.le_refl _) _).trans (hb.mono (by simp))⟩
  · rw [World.cell?_alloc_new]; rfl
  · rw [World.cell?_alloc_new]; rfl

/-- A row of bools in a block of its own. -/
def Bools (w : World) (g : Nat) (l : List Bool) : Prop := ∀ (i : Nat) (b : Bool), l[i]? = some b → w.cell? ⟨g, i, none⟩ = some (.bool b) ∧ w.frozen? ⟨g, i, none⟩ = false
section
variable {w w' : World} {g : Nat} {l : List Bool}
theorem Bools.call (h : Bools w g l) (hb : Below w.heap.size w w') : Bools w' g l := fun i b hi => by
  obtain ⟨h1, h2⟩ := h i b hi
  have hlt := World.block_lt_of_cell? w _ h1
  exact ⟨(hb.cell (p := ⟨g, i, none⟩) hlt).trans h1, (hb.frozen (p := ⟨g, i, none⟩) hlt).trans h2⟩
theorem Bools.drawn (h : Bools w g l) (hb : Drawn w w') : Bools w' g l := h.call hb.below
theorem Bools.set (h : Bools w g l) {i : Nat} (_hi : i < l.length) (b : Bool) : Bools (w.setCell ⟨g, i, none⟩ (.bool b)) g (l.set i b) := fun j c hj => by
  rw [List.getElem?_set] at hj
  split at hj
  · rename_i e
    subst e
    simp at hj
    subst hj
    obtain ⟨h1, h2⟩ := h i l[i] (List.getElem?_eq_getElem _hi)
    exact ⟨World.cell?_setCell_same (w := w) (a := ⟨g, i, none⟩) (v := .bool b) h1, by rw [World.frozen?_setCell]; exact h2⟩
  · rename_i e
    obtain ⟨h1, h2⟩ := h j c hj
    exact ⟨(World.cell?_setCell_other (w := w) (a := ⟨g, i, none⟩) (v := .bool b) (b := ⟨g, j, none⟩) (fun e' => e (congrArg Addr.off e'))).trans h1, by rw [World.frozen?_setCell]; exact h2⟩
theorem Bools.sl {S : Blk} (h : Bools w g l) (hS : S g) (hl : l.length ≤ maxLen) (n : Nat) (hn : l.length = n) : Sl tBool w S (.slice (some ⟨g, 0, none⟩) n n) l :=
  ⟨some ⟨g, 0, none⟩, n, n, rfl, hn, Nat.le_refl _, hn ▸ hl, by simp, fun i b hi => ⟨g, 0, rfl, hS, [.bool b], ⟨rfl, trivial⟩, fun j u hj => by
    have : j = 0 := by
      have := (List.getElem?_eq_some_iff.1 hj).1
      simp at this; omega
    subst this
    simp at hj; subst hj
    have := (h i b hi).1
    simpa [tBool, Ty.flat] using this⟩⟩
theorem Bools.made (w : World) (n : Nat) (t : TypeId) : Bools (w.alloc (.cells (madeCells #[.bool false] n) t)) w.heap.size (List.replicate n false) := fun i b hi => by
  obtain ⟨h1, h2⟩ := List.getElem?_eq_some_iff.1 hi
  simp at h1 h2
  subst h2
  refine ⟨?_, World.frozen?_alloc_new _ _ _ _⟩
  rw [World.cell?_alloc_new]
  simp [madeCells, h1, Nat.mod_one]
end

/-- A row of elements in a block of its own: element i's cells, by way of blocks of C. -/
def Row1 {α : Type} (E : Ty α) (w : World) (g : Nat) (C : Blk) (l : List α) : Prop :=
  ∀ (i : Nat) (a : α), l[i]? = some a → ∃ cs, E.rd w C cs a ∧ ∀ (j : Nat) (u : Value), cs[j]? = some u → w.cell? ⟨g, i * E.size + j, none⟩ = some u ∧ w.frozen? ⟨g, i * E.size + j, none⟩ = false
section
variable {α : Type} {E : Ty α} {w w' : World} {g : Nat} {C S : Blk} {l : List α}
theorem Row1.call (h : Row1 E w g C l) (hb : Below w.heap.size w w') : Row1 E w' g C l := fun i a hi => by
  obtain ⟨cs, h1, h2⟩ := h i a hi
  refine ⟨cs, E.keep h1 fun k _ hk => hb.block k hk, fun j u hj => ?_⟩
  obtain ⟨h3, h4⟩ := h2 j u hj
  have hlt := World.block_lt_of_cell? w _ h3
  exact ⟨(hb.cell (p := ⟨g, i * E.size + j, none⟩) hlt).trans h3, (hb.frozen (p := ⟨g, i * E.size + j, none⟩) hlt).trans h4⟩
theorem Row1.sl (h : Row1 E w g C l) (hC : ∀ k, C k → S k) (hS : S g) (hl : l.length ≤ maxLen) (n : Nat) (hn : l.length = n) : Sl E w S (.slice (some ⟨g, 0, none⟩) n n) l :=
  ⟨some ⟨g, 0, none⟩, n, n, rfl, hn, Nat.le_refl _, hn ▸ hl, by simp, fun i a hi => by
    obtain ⟨cs, h1, h2⟩ := h i a hi
    exact ⟨g, 0, rfl, hS, cs, E.mono h1 fun k hk _ => hC k hk, fun j u hj => by rw [Nat.zero_add]; exact (h2 j u hj).1⟩⟩
theorem Row1.mono (h : Row1 E w g C l) (hC : ∀ k, C k → S k) : Row1 E w g S l := fun i a hi => by
  obtain ⟨cs, h1, h2⟩ := h i a hi
  exact ⟨cs, E.mono h1 fun k hk _ => hC k hk, h2⟩
theorem Row1.lit {cs : List Value} {xs : List (List Value)} (h : Each E w C xs l) (hcs : cs = xs.flatten) (t : TypeId) : Row1 E (w.alloc (.cells cs.toArray t)) w.heap.size C l := fun i a hi => by
  subst hcs
  have hil := (List.getElem?_eq_some_iff.1 hi).1
  have hx : i < xs.length := by rw [h.1]; exact hil
  refine ⟨xs[i], E.keep (h.2 i xs[i] a (List.getElem?_eq_getElem hx) hi) fun k _ hk => Below.heap_alloc w _ k hk, fun j u hj => ⟨?_, World.frozen?_alloc_new _ _ _ _⟩⟩
  rw [World.cell?_alloc_new]
  have hlen := h.lens xs[i] (List.getElem_mem hx)
  have hjl : j < E.size := by rw [← hlen]; exact (List.getElem?_eq_some_iff.1 hj).1
  have hf := flatten_get E.pos xs h.lens (i * E.size + j)
  have e1 : (i * E.size + j) / E.size = i := by rw [Nat.mul_comm, Nat.mul_add_div E.pos, Nat.div_eq_of_lt hjl, Nat.add_zero]
  have e2 : (i * E.size + j) % E.size = j := by rw [Nat.mul_comm, Nat.mul_add_mod, Nat.mod_eq_of_lt hjl]
  rw [e1, e2, List.getElem?_eq_getElem hx, Option.bind_some, hj] at hf
  simpa using hf
end
theorem tCommit_mk {w : World} {S : Blk} {x y : Value} {r : List Row} {p : List Int} (hx : Sl tRow w S x r) (hy : Sl tInt w S y p) : tCommit.rd w S [x, y] (r, p) := ⟨[x], [y], rfl, hx, hy⟩
/-- A commit's parents, set. -/
theorem Row1.parents {w : World} {g : Nat} {C : Blk} {l : List Commit} (h : Row1 tCommit w g C l) (hg : ¬ C g) {i : Nat} {r : List Row} {p : List Int} (hi : l[i]? = some (r, p)) {y : Value} {q : List Int} (hy : Sl tInt w C y q) :
    Row1 tCommit (w.setCell ⟨g, i * 2 + 1, none⟩ y) g C (l.set i (r, q)) := fun k a hk => by
  have keepC : ∀ {α : Type} (E : Ty α) (cs : List Value) (a : α), E.rd w C cs a → E.rd (w.setCell ⟨g, i * 2 + 1, none⟩ y) C cs a := fun E cs a h => E.keep h fun k hk _ => Below.heap_setCell w _ _ _ (fun e => hg (by rw [← show k = g from e]; exact hk))
  rw [List.getElem?_set] at hk
  split at hk
  · rename_i e
    subst e
    have hil := (List.getElem?_eq_some_iff.1 hi).1
    simp [hil] at hk
    subst hk
    obtain ⟨cs, h1, h2⟩ := h i _ hi
    obtain ⟨x0, y0, rfl, hx0, hy0⟩ := rd_commit h1
    refine ⟨[x0, y], tCommit_mk (keepC _ _ _ hx0) (keepC _ _ _ hy), fun j u hj => ?_⟩
    match j, hj with
    | 0, hj =>
      simp at hj; subst hj
      obtain ⟨h3, h4⟩ := h2 0 x0 rfl
      exact ⟨(World.cell?_setCell_other (w := w) (a := ⟨g, i * 2 + 1, none⟩) (v := y) (b := ⟨g, i * 2 + 0, none⟩) (fun e => by have := congrArg Addr.off e; simp at this)).trans h3, by rw [World.frozen?_setCell]; exact h4⟩
    | 1, hj =>
      simp at hj; subst hj
      obtain ⟨h3, h4⟩ := h2 1 y0 rfl
      exact ⟨World.cell?_setCell_same (w := w) (a := ⟨g, i * 2 + 1, none⟩) (v := y) h3, by rw [World.frozen?_setCell]; exact h4⟩
    | j + 2, hj => simp at hj
  · rename_i e
    obtain ⟨cs, h1, h2⟩ := h k a hk
    refine ⟨cs, keepC _ _ _ h1, fun j u hj => ?_⟩
    obtain ⟨h3, h4⟩ := h2 j u hj
    have hj2 : j < 2 := by
      have := tCommit.len h1
      have h2' : tCommit.size = 2 := rfl
      have := (List.getElem?_eq_some_iff.1 hj).1
      omega
    exact ⟨(World.cell?_setCell_other (w := w) (a := ⟨g, i * 2 + 1, none⟩) (v := y) (b := ⟨g, k * 2 + j, none⟩) (fun e' => by have := congrArg Addr.off e'; simp at this; omega)).trans h3, by rw [World.frozen?_setCell]; exact h4⟩

end Go.Pch
end

section
namespace Go.Pch
open Go.RowKit Go.Proofs

theorem aRow : At Tryz.prog tRow 64 115 := At.mk' Tryz.underlying64 (z := .agg #[.int .i64 0, .int .i64 0]) (size := 2) (bytes := 16) (by kernel_rfl) rfl rfl (by decide)

theorem ret_bool {a b : Bool} (h : a = b) : Ending.returned (.bool a) = .returned (.bool b) := by rw [h]
theorem ret_int {a b : Int} (h : a = b) : Ending.returned (.int .i64 a) = .returned (.int .i64 b) := by rw [h]

theorem ret_no {p : Prop} [Decidable p] (h : ¬ p) : Ending.returned (.bool false) = .returned (.bool (decide p)) := by rw [decide_eq_false h]
theorem ret_yes {p : Prop} [Decidable p] (h : p) : Ending.returned (.bool true) = .returned (.bool (decide p)) := by rw [decide_eq_true h]

theorem refWithin (n a b : Int) (w : World) : Calls Tryz.prog 48 #[.int .i64 n, .int .i64 a, .int .i64 b] w fun e w' => e = .returned (.bool (decide (a ≤ n) && decide (n ≤ b))) ∧ w = w' := by
  go_enter Tryz.func48, Tryz.ntmps48
  go_wp2
  all_goals
    go_ret
    refine ⟨ret_bool ?_, rfl⟩
    rw [Bool.eq_iff_iff]; simp <;> omega

theorem refIsKey (k : Int) (w : World) : Calls Tryz.prog 102 #[.int .i64 k] w fun e w' => e = .returned (.bool (keyB k)) ∧ w = w' := by
  go_enter Tryz.func102, Tryz.ntmps102
  go_wp2_with (go_at_call 48; refine (refWithin _ _ _ _).mono ?_; rintro e w' ⟨rfl, rfl⟩)
  go_ret
  exact ⟨rfl, rfl⟩

theorem refIsKey_of (k : Int) (w : World) {c : Bool} (h : keyB k = c) : Calls Tryz.prog 102 #[.int .i64 k] w fun e w' => e = .returned (.bool c) ∧ w = w' := h ▸ refIsKey k w
theorem refWithin_of (n a b : Int) (w : World) {c : Bool} (h : (decide (a ≤ n) && decide (n ≤ b)) = c) : Calls Tryz.prog 48 #[.int .i64 n, .int .i64 a, .int .i64 b] w fun e w' => e = .returned (.bool c) ∧ w = w' := h ▸ refWithin n a b w

set_option maxHeartbeats 400000 in
theorem rowsCheck (v : Value) (l : List Row) (S : Blk) (w : World) (h : Sl tRow w S v l) :
    Calls Tryz.prog 65 #[v] w (Ret w fun r _ => r = .int .i64 (rowsErr l)) := by
  obtain ⟨ao, cap, rfl, hcap, hmax, hnil⟩ := h.shape
  unfold maxLen at hmax
  go_enter Tryz.func65, Tryz.ntmps65
  go_wp2
  · go_ret
    exact ⟨_, rfl, by rw [rowsErr_many (by omega)]; rfl, Below.refl _ _⟩
  · go_loopw [3, 11] (fun last i wr => ∃ (k : Nat) (m : Int), k ≤ l.length ∧ i = .int .i64 k ∧ last = .int .i64 m ∧ Below w.heap.size w wr ∧ Hid (riseB (-1) l = riseB m (l.drop k))) (fun _ i _ => l.length - (intOf i).toNat)
    case atStart => exact ⟨0, -1, Nat.zero_le _, rfl, rfl, Below.refl _ _, rfl⟩
    case round =>
      obtain ⟨k, m, hk, rfl, rfl, hb, hr⟩ := hrel
      by_cases hlt : k < l.length
      · obtain ⟨b, o, hix, _, hbs, ok1, ok2, hc0, hc1⟩ := (h.call hb).idxRow aRow k k rfl hlt
        go_wp2
        any_goals
          go_ret
          exact ⟨_, rfl, by rw [rowsErr_form (by omega) hr.out (rise_stop hlt (by omega))]; rfl, hb.alloc hb.size _⟩
        go_roundw
        case rel => exact ⟨k + 1, _, by omega, by go_num, rfl, hb.alloc hb.size _, hr.out.trans (rise_go hlt (by omega))⟩
        case measure => simp [intOf]; omega
      · go_wp2
        go_ret
        exact ⟨_, rfl, by rw [rowsErr_ok (by omega) hr.out (rise_end hlt)]; rfl, hb⟩
theorem key_not {k : Int} (h : keyB k = false) : k < 0 ∨ 99 < k := by
  simp [keyB] at h; omega
theorem key_yes {k : Int} (h : keyB k = true) : 0 ≤ k ∧ k ≤ 99 := by
  simp [keyB] at h; omega

set_option maxHeartbeats 400000 in
theorem refRowsError (v : Value) (l : List Row) (S : Blk) (w : World) (h : Sl tRow w S v l) :
    Calls Tryz.prog 71 #[v] w (Quiet w (.int .i64 (rowsErr l))) := by
  have hv := h
  obtain ⟨ao, cap, rfl, hcap, hmax, hnil⟩ := h.shape
  unfold maxLen at hmax
  go_enter Tryz.func71, Tryz.ntmps71
  go_wp2
  · go_ret
    exact ⟨by rw [rowsErr_many (by omega)]; rfl, .refl _⟩
  · go_loopw [3] (fun i wr => ∃ (k : Nat) (m : Int), k ≤ l.length ∧ -1 ≤ m ∧ i = .int .i64 k ∧ Drawn w wr ∧ Hid (riseB (-1) l = riseB m (l.drop k)) ∧ Hid (k = 0 ∧ m = -1 ∨ ∃ h : k - 1 < l.length, 0 < k ∧ m = l[k-1].1)) (fun i _ => l.length - (intOf i).toNat)
    case atStart => exact ⟨0, -1, Nat.zero_le _, by omega, rfl, .refl _, rfl, .inl ⟨rfl, rfl⟩⟩
    case round =>
      obtain ⟨k, m, hk, hm0, rfl, hd, hr, hm⟩ := hrel
      by_cases hlt : k < l.length
      · obtain ⟨b, o, hix, _, hbs, ok1, ok2, hc0, hc1⟩ := (hv.call hd.below).idxRow aRow k k rfl hlt
        go_wp2_with fail
        cases hkb : keyB l[k].1 with
        | false =>
          have hno := key_not hkb
          go_quiet ((go_at_call 102; exact quietEq (refIsKey_of _ _ hkb)))
          go_wp2
          go_ret
          exact ⟨by rw [rowsErr_form (by omega) hr.out (rise_stop hlt (by omega))]; rfl, hd.next _⟩
        | true =>
          cases hvb : (decide (0 ≤ l[k].2) && decide (l[k].2 ≤ 996)) with
          | false =>
            go_quiet ((first | (go_at_call 102; exact quietEq (refIsKey_of _ _ hkb)) | (go_at_call 48; exact quietEq (refWithin_of _ _ _ _ hvb))))
            go_wp2
            go_ret
            simp only [Bool.and_eq_false_iff, decide_eq_false_iff_not] at hvb
            exact ⟨by rw [rowsErr_form (by omega) hr.out (rise_stop hlt (by omega))]; rfl, hd.next _⟩
          | true =>
            have hyes := key_yes hkb
            have hvb' := hvb
            simp only [Bool.and_eq_true, decide_eq_true_eq] at hvb'
            by_cases hk0 : k = 0
            · have hk1 : decide (0 < k) = false := by simp; omega
              have hk2 : k ≤ 0 := by omega
              have hgo : riseB m (l.drop k) = riseB l[k].1 (l.drop (k + 1)) := rise_go hlt (by rcases hm.out with h | ⟨_, h, _⟩ <;> omega)
              have Hgo := keepBack hgo
              clear hk0 hgo
              go_quiet ((first | (go_at_call 102; exact quietEq (refIsKey_of _ _ hkb)) | (go_at_call 48; exact quietEq (refWithin_of _ _ _ _ hvb))))
              go_wp2
              go_roundw
              case rel => exact ⟨k + 1, _, by omega, by omega, by go_num, hd.next _, hr.out.trans Hgo.out, .inr ⟨by simpa using hlt, by omega, rfl⟩⟩
              case measure => simp [intOf]; omega
            · have hk1 : decide (0 < k) = true := by simp; omega
              have hm1 : m = l[k - 1].1 := by rcases hm.out with h | ⟨_, _, h⟩ <;> omega
              have Hm1 := keepBack hm1
              clear hm1
              obtain ⟨b', o', hix', _, hbs', ok1', ok2', hc0', hc1'⟩ := (hv.call hd.below).idxRow aRow (k - 1) (k - 1) (by omega) (by omega)
              go_quiet ((first | (go_at_call 102; exact quietEq (refIsKey_of _ _ hkb)) | (go_at_call 48; exact quietEq (refWithin_of _ _ _ _ hvb))))
              go_wp2
              · have hx : l[k].1 ≤ l[k - 1].1 := by assumption
                go_ret
                exact ⟨by rw [rowsErr_form (by omega) hr.out (rise_stop hlt (by rw [Hm1.out]; omega))]; rfl, hd.next _⟩
              · have hx : l[k - 1].1 < l[k].1 := by assumption
                go_roundw
                case rel => exact ⟨k + 1, _, by omega, by omega, by go_num, hd.next _, hr.out.trans (rise_go hlt (by rw [Hm1.out]; omega)), .inr ⟨by simpa using hlt, by omega, rfl⟩⟩
                case measure => simp [intOf]; omega
      · go_wp2
        go_ret
        exact ⟨by rw [rowsErr_ok (by omega) hr.out (rise_end hlt)]; rfl, hd⟩

end Go.Pch
end
