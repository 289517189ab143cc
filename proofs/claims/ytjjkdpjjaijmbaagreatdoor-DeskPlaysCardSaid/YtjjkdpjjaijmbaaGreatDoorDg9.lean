/- Plain words of chapter 3 (trees) on lists; no program is named here. Plain words of chapter 3: a tree's rows, what is wrong with it, its root; no program is named here. Chapter 13: scripts: plain words. append of a text to bytes of one's own. The walks of slices.Clone at rows, numbers, heads, commits (written by wip/gen_clone.py). A cell of an element of a slice that the call itself grows is written; no program is named here. -/
import Derived.Test.YtjjkdpjjaijmbaaGreatDoorDg1
import Derived.Test.YtjjkdpjjaijmbaaGreatDoorDg8
import Derived.Lib.ItoaLen
import Derived.Lib.Join
import Derived.Lib.AtoiTie
import Derived.Lib.SplitLaws
import Derived.Test.YtjjkdpjjaijmbaaGreatDoorDg3
import Derived.Lib.SliceRun
import Derived.Test.YtjjkdpjjaijmbaaGreatDoorDg5
section
namespace Go.Pch
def tell (c : List Row) : Row := ((c.getLast?.getD (0, 0)).1, sumL c)
def treeF : Nat → Int → List Row → List (List (List Row))
  | 0, _, _ => []
  | f + 1, n, l => if l = [] then [] else if (chunks n l).length = 1 then [chunks n l] else chunks n l :: treeF f (n + 1) ((chunks n l).map tell)
def treeL (l : List Row) : List (List (List Row)) := treeF l.length 0 l
theorem chunks_pos {n : Int} {l : List Row} (h : l ≠ []) : 0 < (chunks n l).length := by
  rw [chunks_cons n h]; simp
theorem half_of : ∀ (X : List (List Row)), (∀ (i : Nat) (c : List Row), X[i]? = some c → 0 < c.length ∧ (i + 1 < X.length → 2 ≤ c.length)) → 2 * X.length ≤ X.flatten.length + 1
  | [], _ => by simp
  | [c], h => by have := (h 0 c rfl).1; simp; omega
  | c :: d :: X, h => by
    have h0 := (h 0 c rfl).2 (by simp)
    have ih := half_of (d :: X) fun i e he => by
      have := h (i + 1) e (by simpa using he)
      exact ⟨this.1, fun hi => this.2 (by simp at hi ⊢; omega)⟩
    rw [List.flatten_cons, List.length_append, List.length_cons]
    omega
theorem chunks_half (n : Int) (l : List Row) : 2 * (chunks n l).length ≤ l.length + 1 := by
  have := half_of (chunks n l) fun i c hc => by have := chunks_sizes i c hc; exact ⟨this.1, this.2.2⟩
  rwa [chunks_flatten] at this
theorem treeF_more : ∀ (f g : Nat) (n : Int) (l : List Row), l.length ≤ f → l.length ≤ g → treeF f n l = treeF g n l
  | 0, 0, _, _, _, _ => rfl
  | 0, g + 1, n, l, h, _ => by
    have : l = [] := List.eq_nil_of_length_eq_zero (by omega)
    simp [treeF, this]
  | f + 1, 0, n, l, _, h => by
    have : l = [] := List.eq_nil_of_length_eq_zero (by omega)
    simp [treeF, this]
  | f + 1, g + 1, n, l, h1, h2 => by
    rw [treeF, treeF]
    split
    · rfl
    · rename_i hl
      split
      · rfl
      · rename_i h3
        have := chunks_half n l
        have := chunks_pos (n := n) hl
        rw [treeF_more f g (n + 1) ((chunks n l).map tell) (by rw [List.length_map]; omega) (by rw [List.length_map]; omega)]
def treeN (n : Int) (l : List Row) : List (List (List Row)) := treeF l.length n l
theorem treeN_nil (n : Int) : treeN n [] = [] := rfl
theorem treeN_top {n : Int} {l : List Row} (h : l ≠ []) (h1 : (chunks n l).length = 1) : treeN n l = [chunks n l] := by
  have : 0 < l.length := by cases l <;> simp_all
  obtain ⟨k, hk⟩ : ∃ k, l.length = k + 1 := ⟨l.length - 1, by omega⟩
  rw [treeN, hk, treeF, if_neg h, if_pos h1]
theorem treeN_more {n : Int} {l : List Row} (h : l ≠ []) (h1 : (chunks n l).length ≠ 1) : treeN n l = chunks n l :: treeN (n + 1) ((chunks n l).map tell) := by
  have : 0 < l.length := by cases l <;> simp_all
  obtain ⟨k, hk⟩ : ∃ k, l.length = k + 1 := ⟨l.length - 1, by omega⟩
  have h2 := chunks_half n l
  have h3 := chunks_pos (n := n) h
  rw [treeN, hk, treeF, if_neg h, if_neg h1, treeN]
  rw [treeF_more k _ _ _ (by rw [List.length_map]; omega) (Nat.le_refl _)]
theorem rise_append {m : Int} : ∀ {c r : List Row}, c ≠ [] → riseB m (c ++ r) = true → m < (c.getLast?.getD (0, 0)).1 ∧ (c.getLast?.getD (0, 0)).1 ≤ 99 ∧ riseB (c.getLast?.getD (0, 0)).1 r = true
  | [], _, h, _ => absurd rfl h
  | [x], r, _, h => by
    rw [List.singleton_append, riseB_cons] at h
    simpa using ⟨h.1.1, h.1.2.1, h.2⟩
  | x :: y :: c, r, _, h => by
    rw [List.cons_append, riseB_cons] at h
    have := rise_append (c := y :: c) (r := r) (by simp) h.2
    rw [List.getLast?_cons_cons]
    exact ⟨by omega, this.2.1, this.2.2⟩
theorem told_rise : ∀ (X : List (List Row)) (m : Int), (∀ c ∈ X, c ≠ []) → riseB m X.flatten = true → riseB m (X.map tell) = true
  | [], _, _, _ => rfl
  | c :: X, m, h, hr => by
    rw [List.flatten_cons] at hr
    have h1 := rise_append (h c (by simp)) hr
    have hb := fold_bounds c
    rw [List.map_cons, riseB_cons]
    exact ⟨⟨h1.1, h1.2.1, hb.1, hb.2⟩, told_rise X _ (fun d hd => h d (by simp [hd])) h1.2.2⟩
theorem told_ok {l : List Row} (h : rowsErr l = 0) (n : Int) : rowsErr ((chunks n l).map tell) = 0 := by
  obtain ⟨h1, h2⟩ := ok_rise h
  refine rowsErr_zero ?_ ?_
  · have := chunks_length n l
    rw [List.length_map]; omega
  · exact told_rise _ _ (fun c hc => (chunks_mem c hc).1) (by rw [chunks_flatten]; exact h2)
end Go.Pch
end

section
namespace Go.Pch
def flatL (t : List (List (List Row))) : List Row := (t.headD []).flatten
def treeErr (t : List (List (List Row))) : Int := if rowsErr (flatL t) = 0 ∧ treeL (flatL t) = t then 0 else 1
def topL (t : List (List (List Row))) : Int := if t = [] then 1 else sumL ((t.getLastD []).headD [])
theorem treeErr_ok {t : List (List (List Row))} (h : treeErr t = 0) : rowsErr (flatL t) = 0 ∧ treeL (flatL t) = t := by
  unfold treeErr at h
  split at h
  · assumption
  · omega
theorem treeErr_of {t : List (List (List Row))} (h1 : rowsErr (flatL t) = 0) (h2 : treeL (flatL t) = t) : treeErr t = 0 := by
  unfold treeErr; rw [if_pos ⟨h1, h2⟩]
theorem treeL_nil : treeL [] = [] := rfl
theorem treeL_cons {l : List Row} (h : l ≠ []) : ∃ more, treeL l = chunks 0 l :: more := by
  by_cases h1 : (chunks 0 l).length = 1
  · exact ⟨[], treeN_top (n := 0) h h1⟩
  · exact ⟨_, treeN_more (n := 0) h h1⟩
theorem flat_tree (l : List Row) : flatL (treeL l) = l := by
  by_cases h : l = []
  · subst h; rfl
  · obtain ⟨m, hm⟩ := treeL_cons h
    rw [hm, flatL, List.headD_cons, chunks_flatten]
theorem treeErr_tree {l : List Row} (h : rowsErr l = 0) : treeErr (treeL l) = 0 := treeErr_of (by rw [flat_tree]; exact h) (by rw [flat_tree])
theorem fine_chunk {l : List Row} (hf : fineB l = true) (n : Int) : ∀ c ∈ chunks n l, c ≠ [] ∧ fineB c = true := fun c hc => by
  refine ⟨(chunks_mem c hc).1, ?_⟩
  rw [fineB, List.all_eq_true] at hf ⊢
  exact fun r hr => hf r ((chunks_mem c hc).2 r hr)
theorem treeN_last : ∀ (k : Nat) (n : Int) (l : List Row), l.length ≤ k → rowsErr l = 0 → l ≠ [] → ∃ init c, treeN n l = init ++ [[c]] ∧ c ≠ [] ∧ fineB c = true
  | 0, n, l, hk, _, hl => absurd (List.eq_nil_of_length_eq_zero (Nat.le_zero.1 hk)) hl
  | k + 1, n, l, hk, ho, hl => by
    by_cases h1 : (chunks n l).length = 1
    · obtain ⟨c, hc⟩ := List.length_eq_one_iff.1 h1
      refine ⟨[], c, by rw [treeN_top hl h1, hc]; rfl, ?_⟩
      exact fine_chunk (ok_fine ho) n c (by rw [hc]; simp)
    · have h2 := chunks_half n l
      have h3 := chunks_pos (n := n) hl
      obtain ⟨init, c, he, hc⟩ := treeN_last k (n + 1) ((chunks n l).map tell) (by rw [List.length_map]; omega) (told_ok ho n) (by intro e; have := congrArg List.length e; simp at this; simp [this] at h3)
      exact ⟨chunks n l :: init, c, by rw [treeN_more hl h1, he]; rfl, hc⟩
theorem treeL_last {l : List Row} (ho : rowsErr l = 0) (hl : l ≠ []) : ∃ init c, treeL l = init ++ [[c]] ∧ c ≠ [] ∧ fineB c = true := treeN_last _ 0 l (Nat.le_refl _) ho hl
theorem treeErr_last {t : List (List (List Row))} (h : treeErr t = 0) (ht : t ≠ []) : ∃ init c, t = init ++ [[c]] ∧ c ≠ [] ∧ fineB c = true ∧ topL t = sumL c := by
  obtain ⟨h1, h2⟩ := treeErr_ok h
  obtain ⟨init, c, he, h3, h4⟩ := treeL_last h1 (l := flatL t) (by intro e; rw [e, treeL_nil] at h2; exact ht h2.symm)
  rw [h2] at he
  refine ⟨init, c, he, h3, h4, ?_⟩
  rw [topL, if_neg ht, he]
  simp
end Go.Pch
end

section
namespace Go.Pch
open Go.Lib (decDigits decNat decFrom digitVal itoa)
def spl : Bytes → List Bytes
  | [] => [[]]
  | c :: s => if c = 32 then [] :: spl s else match spl s with
    | [] => [[c]]
    | x :: xs => (c :: x) :: xs
theorem spl_some (s : Bytes) : ∃ x xs, spl s = x :: xs := by
  cases s with
  | nil => exact ⟨_, _, rfl⟩
  | cons c s =>
    by_cases h : c = 32
    · exact ⟨_, _, by rw [spl, if_pos h]⟩
    · rw [spl, if_neg h]
      cases spl s with
      | nil => exact ⟨_, _, rfl⟩
      | cons x xs => exact ⟨_, _, rfl⟩
theorem spl_one : ∀ s : Bytes, (∀ c ∈ s, c ≠ 32) → spl s = [s]
  | [], _ => rfl
  | c :: s, h => by rw [spl, if_neg (h c (by simp)), spl_one s fun d hd => h d (by simp [hd])]
theorem spl_cut : ∀ (a b : Bytes), (∀ c ∈ a, c ≠ 32) → spl (a ++ 32 :: b) = a :: spl b
  | [], b, _ => by simp [spl]
  | c :: a, b, h => by rw [List.cons_append, spl, if_neg (h c (by simp)), spl_cut a b fun d hd => h d (by simp [hd])]
theorem spl_short : ∀ s : Bytes, ∀ x ∈ spl s, x.length ≤ s.length
  | [], x, hx => by simp [spl] at hx; subst hx; simp
  | c :: s, x, hx => by
    have ih := spl_short s
    rw [spl] at hx
    split at hx
    · rcases List.mem_cons.1 hx with rfl | hx
      · simp
      · have := ih x hx; simp; omega
    · obtain ⟨y, ys, hy⟩ := spl_some s
      rw [hy] at hx ih
      rcases List.mem_cons.1 hx with rfl | hx
      · have := ih y (by simp); simp; omega
      · have := ih x (by simp [hx]); simp; omega
theorem spl_len : ∀ s : Bytes, (spl s).length = s.count 32 + 1
  | [] => rfl
  | c :: s => by
    have ih := spl_len s
    rw [spl]
    split
    · rename_i h; subst h; simp [ih]
    · rename_i h
      obtain ⟨y, ys, hy⟩ := spl_some s
      rw [hy] at ih ⊢
      rw [List.count_cons_of_ne (by simpa using h)]
      simpa using ih
theorem index_blank (s : Bytes) : Lib.index (32 :: s) [32] = 0 := by simp [Lib.index]
theorem index_other {c : UInt8} (h : c ≠ 32) (s : Bytes) : Lib.index (c :: s) [32] = if Lib.index s [32] = -1 then -1 else Lib.index s [32] + 1 := by
  have h' : ¬ (32 : UInt8) = c := fun e => h e.symm
  simp [Lib.index, h']
theorem splitK_spl : ∀ s : Bytes, Lib.splitK [32] 0 (s.count 32) s = spl s
  | [] => rfl
  | c :: s => by
    have ih := splitK_spl s
    by_cases h : c = 32
    · subst h
      rw [List.count_cons_self, Lib.splitK, index_blank, spl, if_pos rfl, ← ih]
      simp
    · rw [List.count_cons_of_ne (by simpa using h), spl, if_neg h, ← ih]
      cases hk : s.count 32 with
      | zero => rfl
      | succ k =>
        have hge := Lib.index_ge s [32]
        rw [Lib.splitK, Lib.splitK, index_other h]
        by_cases hi : Lib.index s [32] = -1
        · simp [hi]
        · have e : (Lib.index s [32] + 1).toNat = (Lib.index s [32]).toNat + 1 := by omega
          have h1 : (Lib.index s [32] == -1) = false := by simpa using hi
          have h2 : (Lib.index s [32] + 1 == -1) = false := by simp; omega
          simp only [if_neg hi, h1, h2, Bool.false_eq_true, if_false, e]
          simp
def numP (s : Bytes) : Option Nat :=
  if s.length ≤ 6 then (match decNat s with
    | some n => if decDigits n = s then some n else none
    | none => none) else none
theorem decFrom_app : ∀ (a b : Bytes) (k n : Nat), decFrom k a = some n → decFrom k (a ++ b) = decFrom n b
  | [], b, k, n, h => by simp [decFrom] at h; subst h; rfl
  | c :: a, b, k, n, h => by
    rw [decFrom] at h
    rw [List.cons_append, decFrom]
    cases hd : digitVal c with
    | none => simp [hd] at h
    | some d =>
      simp only [hd] at h ⊢
      exact decFrom_app a b _ n h
theorem digit_of (d : Nat) (h : d < 10) : digitVal (UInt8.ofNat (48 + d)) = some d := by
  have : (UInt8.ofNat (48 + d)).toNat = 48 + d := by rw [UInt8.toNat_ofNat']; omega
  rw [digitVal, this, if_pos (by omega)]
  congr 1; omega
theorem decFrom_digits : ∀ (n : Nat), decFrom 0 (decDigits n) = some n := by
  intro n
  induction n using Nat.strongRecOn with
  | _ n ih =>
    rw [decDigits]
    split
    · rename_i h
      simp only [decFrom, digit_of n h]
      congr 1; omega
    · rename_i h
      rw [decFrom_app _ _ _ _ (ih (n / 10) (by omega))]
      simp only [decFrom, digit_of (n % 10) (by omega)]
      congr 1; omega
theorem decDigits_ne (n : Nat) : decDigits n ≠ [] := by
  rw [decDigits]; split <;> simp
theorem decNat_digits (n : Nat) : decNat (decDigits n) = some n := by
  rw [decNat, if_neg (by simpa using decDigits_ne n), decFrom_digits]
theorem numP_some {s : Bytes} {n : Nat} : numP s = some n ↔ s.length ≤ 6 ∧ decDigits n = s := by
  unfold numP
  constructor
  · intro h
    split at h
    · rename_i h6
      refine ⟨h6, ?_⟩
      split at h
      · split at h
        · rename_i hd
          simp only [Option.some.injEq] at h
          subst h
          exact hd
        · cases h
      · cases h
    · cases h
  · rintro ⟨h6, rfl⟩
    rw [if_pos h6, decNat_digits]
    simp
theorem numP_lt {s : Bytes} {n : Nat} (h : numP s = some n) : n < 1000000 := by
  obtain ⟨h1, rfl⟩ := numP_some.1 h
  rw [Lib.decDigits_length] at h1
  have := Lib.lt_pow_nDigits n
  have h2 : 10 ^ Lib.nDigits n ≤ 10 ^ 6 := Nat.pow_le_pow_right (by decide) h1
  omega
theorem num_desk (s : Bytes) : (∀ v, Lib.atoiAll s = .ok v → (0 ≤ v ∧ s.length ≤ 6 ∧ itoa v = s ↔ numP s = some v.toNat ∧ 0 ≤ v)) := by
  intro v hv
  constructor
  · rintro ⟨h1, h2, h3⟩
    refine ⟨numP_some.2 ⟨h2, ?_⟩, h1⟩
    rw [itoa, if_neg (by omega)] at h3
    exact h3
  · rintro ⟨h1, h2⟩
    obtain ⟨h3, h4⟩ := numP_some.1 h1
    refine ⟨h2, h3, ?_⟩
    rw [itoa, if_neg (by omega)]
    exact h4
theorem digit_byte (n : Nat) : ∀ c ∈ decDigits n, 48 ≤ c.toNat ∧ c.toNat ≤ 57 := by
  induction n using Nat.strongRecOn with
  | _ n ih =>
    have hb : ∀ d, d < 10 → 48 ≤ (UInt8.ofNat (48 + d)).toNat ∧ (UInt8.ofNat (48 + d)).toNat ≤ 57 := fun d hd => by
      rw [UInt8.toNat_ofNat']; omega
    rw [decDigits]
    split
    · rename_i h
      intro c hc
      simp only [List.mem_singleton] at hc
      subst hc
      exact hb n h
    · rename_i h
      intro c hc
      rcases List.mem_append.1 hc with hc | hc
      · exact ih _ (by omega) c hc
      · simp only [List.mem_singleton] at hc
        subst hc
        exact hb _ (by omega)
theorem numP_atoi {s : Bytes} {n : Nat} (h : numP s = some n) : Lib.atoiAll s = .ok (n : Int) := by
  obtain ⟨h1, rfl⟩ := numP_some.1 h
  rw [Lib.atoiAll_short _ (by omega)]
  have hb := digit_byte n
  have hd := decNat_digits n
  cases hs : decDigits n with
  | nil => exact absurd hs (decDigits_ne n)
  | cons c r =>
    rw [hs] at hb hd
    have hc := hb c (by simp)
    have e1 : (c == 45) = false := by rw [beq_eq_false_iff_ne]; rintro rfl; simp at hc
    have e2 : (c == 43) = false := by rw [beq_eq_false_iff_ne]; rintro rfl; simp at hc
    rw [Lib.atoi, e1, e2]
    simp only [Bool.false_eq_true, if_false]
    rw [hd]
    rfl
theorem numP_not {s : Bytes} {v : Int} (ha : Lib.atoiAll s = .ok v) (h : ¬ (0 ≤ v ∧ s.length ≤ 6 ∧ itoa v = s)) : numP s = none := by
  cases hn : numP s with
  | none => rfl
  | some n =>
    have h1 := numP_atoi hn
    rw [ha] at h1
    simp only [Lib.NumEnd.ok.injEq] at h1
    subst h1
    exact absurd ((num_desk s _ ha).2 ⟨by simpa using hn, by omega⟩) h
theorem numP_err {s : Bytes} (h : ∀ v, Lib.atoiAll s ≠ .ok v) : numP s = none := by
  cases hn : numP s with
  | none => rfl
  | some n => exact absurd (numP_atoi hn) (h _)
def dgL (n : Int) : Bytes := if n < 0 then [45] else decDigits n.toNat
theorem dgL_nat (n : Nat) : dgL (n : Int) = decDigits n := by rw [dgL, if_neg (by omega)]; rfl
theorem dgL_itoa {n : Int} (h : 0 ≤ n) : itoa n = dgL n := by rw [dgL, if_neg (by omega), itoa, if_neg (by omega)]
theorem dgL_len {n : Int} (h : n ≤ 9223372036854775807) : (dgL n).length ≤ 20 := by
  rw [dgL]
  split
  · simp
  · rw [Lib.decDigits_length]
    exact Lib.nDigits_le20 _ (by omega)
def lsL (l : List Bytes) : Bytes := if l = [] then [45] else Lib.join l [32]
def hdRows (r : Repo) (h : Bytes) : List Row × Int := if (headP r (bl h)).2 = 0 then (rowsN r.1 (headP r (bl h)).1.toNat, 0) else ([], (headP r (bl h)).2)
def chgP (r : Repo) (h : Bytes) (k v : Int) : Repo × Int :=
  if (hdRows r h).2 = 0 then (if (keyB k && valB v) = true then (if valueOf (hdRows r h).1 k = v then (noRepo, 9) else jPut r (bl h) [(k, valueOf (hdRows r h).1 k, v)]) else (noRepo, 3)) else (noRepo, (hdRows r h).2)
abbrev Out := Repo × Bytes × Int
def okO (p : Repo × Int) : Out := (p.1, [111, 107], p.2)
def noO (e : Int) : Out := (noRepo, [], e)
def mergeO (r : Repo) (p : Repo × List Int × Int) : Out := if p.2.2 = 7 then (r, [99, 108, 97, 115, 104, 32] ++ lsL (p.2.1.map dgL), 0) else (p.1, [111, 107], p.2.2)
def rowsO (r : Repo) (p : List Row × Int) : Out := if p.2 = 0 then (r, lsL (p.1.map fun x => dgL x.1 ++ 61 :: dgL x.2), 0) else noO p.2
def rootO (r : Repo) (p : List Row × Int) : Out := if p.2 = 0 then (r, dgL (topL (treeL p.1)), 0) else noO p.2
def logO (r : Repo) (p : List Int × Int) : Out := if p.2 = 0 then (r, lsL (p.1.map dgL), 0) else noO p.2
def chgL (x : Change) : Bytes := dgL x.1 ++ 58 :: (dgL x.2.1 ++ 62 :: dgL x.2.2)
def diffO (r : Repo) (p q : List Row × Int) : Out := if p.2 = 0 then (if q.2 = 0 then (r, lsL ((betw p.1 q.1).map chgL), 0) else noO q.2) else noO p.2
def wPut : Bytes := [112, 117, 116]
def wCut : Bytes := [99, 117, 116]
def wBranch : Bytes := [98, 114, 97, 110, 99, 104]
def wDrop : Bytes := [100, 114, 111, 112]
def wMerge : Bytes := [109, 101, 114, 103, 101]
def wRows : Bytes := [114, 111, 119, 115]
def wRoot : Bytes := [114, 111, 111, 116]
def wLog : Bytes := [108, 111, 103]
def wDiff : Bytes := [100, 105, 102, 102]
def putO (r : Repo) (h k v : Bytes) : Out := match numP k, numP v with
  | some a, some b => okO (chgP r h a b)
  | _, _ => noO 1
def cutO (r : Repo) (h k : Bytes) : Out := match numP k with
  | some a => okO (chgP r h a (-1))
  | none => noO 1
def wordsO (r : Repo) : List Bytes → Out
  | [c, h] => if c = wDrop then okO (jDrop r (bl h)) else if c = wRows then rowsO r (hdRows r h) else if c = wRoot then rootO r (hdRows r h) else if c = wLog then logO r (logP r (bl h)) else noO 1
  | [c, h, k] => if c = wCut then cutO r h k else if c = wBranch then okO (jBranch r (bl h) (bl k)) else if c = wMerge then mergeO r (jJoin r (bl h) (bl k)) else if c = wDiff then diffO r (hdRows r h) (hdRows r k) else noO 1
  | [c, h, k, v] => if c = wPut then putO r h k v else noO 1
  | _ => noO 1
def lineP (r : Repo) (s : Bytes) : Repo × Bytes := let o := wordsO r (spl s)
  if o.2.2 = 0 then (o.1, o.2.1) else (r, [101, 114, 114, 111, 114, 32] ++ dgL o.2.2)
def lin : Bytes → List Bytes
  | [] => []
  | c :: s => if c = 10 then [] :: lin s else match lin s with
    | [] => []
    | x :: xs => (c :: x) :: xs
def playL : Repo → List Bytes → Bytes
  | _, [] => []
  | r, l :: ls => (lineP r l).2 ++ 10 :: playL (lineP r l).1 ls
def beginR : Repo := ([([], [])], [(ByteArray.mk #[109, 97, 105, 110], 0)])
def playP (t : Bytes) : Bytes × Int :=
  if 4096 < t.length ∨ 60 < t.count 10 then ([], 2) else if t ≠ [] ∧ t.getLast? ≠ some 10 then ([], 1) else (playL beginR (lin t), 0)
end Go.Pch
end

section
namespace Go.Pch
open Go.RowKit Go.Proofs
set_option maxRecDepth 100000
theorem byteInfo : (Tryz.prog.info? 5).map (fun i => (i.zero, i.size, i.bytes)) = some (some (.int .u8 0), 1, 1) := by kernel_rfl
theorem strEach (w : World) (D : Blk) : ∀ l : Bytes, Each tByte w D (l.map fun b => [Value.int .u8 (b.toNat : Int)]) l
  | [] => Each.nil
  | b :: l => by
    have := (Each.one (E := tByte) (w := w) (D := D) [Value.int .u8 (b.toNat : Int)] b ⟨rfl, trivial⟩).app (strEach w D l)
    simpa using this
theorem flat_one {α β : Type} (f : α → β) : ∀ l : List α, (l.map fun b => [f b]).flatten = l.map f
  | [] => rfl
  | b :: l => by rw [List.map_cons, List.flatten_cons, flat_one f l]; rfl
theorem Own.runS {w : World} {B : Nat} {C : Blk} {v : Value} {l : Bytes} (h : Own tByte 5 w B C v l) (s : ByteArray) (ty : TypeId) (hn : l.length + s.size ≤ 1000000000000) (hB : B ≤ w.heap.size) :
    ∃ v' w', (Builtin.append_ #[38, 9] ty #[v, .string s]).run Tryz.prog w = .ok v' w' ∧ Own tByte 5 w' B C v' (l ++ s.data.toList) ∧ w.grownBy w' v.ownBlock ∧ (v'.ownBlock = v.ownBlock ∨ v'.ownBlock = some w.heap.size) := by
  obtain ⟨q, i1, i2, i3, i4⟩ := info_parts byteInfo
  obtain ⟨xs, hr, hE⟩ := h
  have h63 : l.length + s.size ≤ maxLen := by unfold maxLen; omega
  have hs1 : tByte.size = 1 := rfl
  rw [hs1] at hr
  have hxl : xs.flatten.length = l.length := by simpa using hr.1
  obtain ⟨v', w', hrun, hown, hgrow, hnil⟩ := Lib.run_append_own_string (P := Tryz.prog) w B 38 9 ty 5 q Tryz.underlying38 Tryz.underlying9 i1 i2 i3 i4 v l.length xs.flatten hr s h63 (by omega) hB
  have hblk : v'.ownBlock = v.ownBlock ∨ v'.ownBlock = some w.heap.size := by
    rcases hr.2 with ⟨rfl, h0⟩ | ⟨g, cap, cur, rfl, hb, hg, h1, h2, h3, h4⟩
    · by_cases hm : s.size = 0
      · obtain rfl := hnil.2 ⟨rfl, hm⟩
        exact .inl rfl
      · have hr2 := run_append_nil_string (P := Tryz.prog) w 38 9 ty 5 q (.int .u8 0) Tryz.underlying38 Tryz.underlying9 i1 i2 s (by omega) (by unfold maxLen at h63; omega) (by rw [i4]; omega)
        rw [hrun] at hr2
        simp only [Result.ok.injEq] at hr2
        rw [hr2.1]
        exact .inr rfl
    · by_cases hroom : l.length + s.size ≤ cap
      · have hr2 := Lib.run_append_room_string (P := Tryz.prog) w 38 9 ty 5 q Tryz.underlying38 Tryz.underlying9 i1 i3 g l.length cap cur hg s hroom (by omega)
        rw [hrun] at hr2
        simp only [Result.ok.injEq] at hr2
        rw [hr2.1]
        exact .inl rfl
      · have holds := hr.cells (g := g) rfl
        have hr2 := Lib.run_append_grow_string (P := Tryz.prog) w 38 9 ty 5 q (.int .u8 0) Tryz.underlying38 Tryz.underlying9 i1 i2 ⟨g, 0, none⟩ l.length cap xs.flatten (by rw [i3]; omega) holds s (by omega) (by unfold maxLen at h63; omega) (by rw [i4]; exact growslice_fits (by omega) (by omega))
        rw [hrun] at hr2
        simp only [Result.ok.injEq] at hr2
        rw [hr2.1]
        exact .inr rfl
  refine ⟨v', w', hrun, ⟨xs ++ s.data.toList.map fun b => [Value.int .u8 (b.toNat : Int)], ?_, ?_⟩, hgrow, hblk⟩
  · have e1 : (xs ++ s.data.toList.map fun b => [Value.int .u8 (b.toNat : Int)]).flatten = xs.flatten ++ Lib.strCells s := by
      rw [List.flatten_append]
      congr 1
      exact flat_one _ _
    rw [e1, List.length_append, show s.data.toList.length = s.size from Array.length_toList]
    exact hown
  · have hE' : Each tByte w' (fun k => C k ∧ some k ≠ v'.ownBlock) xs l := ⟨hE.1, fun i cs a hc ha => hE.2 i cs a hc ha⟩
    exact hE'.app (strEach w' _ s.data.toList)
end Go.Pch
end

section
namespace Go.Pch
open Go.RowKit Go.Proofs
set_option maxRecDepth 100000
set_option maxHeartbeats 400000 in
theorem ownRow (v : Value) (l : List Row) (S : Blk) (w : World) (h0 : Sl tRow w S v l) (hl : l.length ≤ 1000000) :
    Calls Tryz.prog 147 #[v] w (Ret w fun r w' => Own tRow 86 w' w.heap.size (fun k => S k ∧ k < w.heap.size) r l) := by
  have h : Sl tRow w (fun k => S k ∧ k < w.heap.size) v l := h0.mono fun k hk hlt => ⟨hk, hlt⟩
  obtain ⟨ao, cap, rfl, hcap, hmax, hnil⟩ := h.shape
  cases ao with
  | none =>
    have hz := hnil rfl
    obtain rfl : l = [] := List.eq_nil_of_length_eq_zero (by omega)
    subst hz
    have hq := fun W => Lib.run_eql_slice_nil (P := Tryz.prog) W 56 86 none 0 0 0 0 Tryz.underlying56
    go_enter Tryz.func147, Tryz.ntmps147
    go_wp2
    go_ret
    exact ⟨_, rfl, .nil, Below.refl _ _⟩
  | some ad =>
    have hq := fun W => Lib.run_eql_slice_nil (P := Tryz.prog) W 56 86 (some ad) l.length cap 0 0 Tryz.underlying56
    have hs := fun W (hW : Below w.heap.size w W) => (h.call hW).src
    go_enter Tryz.func147, Tryz.ntmps147
    go_wp2_with (at_builtin; refine wpList_grow rfl (.tmp 5) (.tmp 6) rfl aRow rfl (Own.made (B := w.heap.size) (C := fun k => S k ∧ k < w.heap.size) _ (Nat.le_refl _)) rfl rfl (hs _ ((Below.refl _ _).alloc (Nat.le_refl _) _)) (by simp) (fun k hk _ => ⟨hk, fun e => absurd (Option.some.inj e) (Nat.ne_of_lt hk.2)⟩) (by simp; omega) (by simp) ?_)
    intro v1 w1 hown hgrow
    go_wp2
    go_ret
    exact ⟨_, rfl, hown, ((Below.refl _ _).alloc (Nat.le_refl _) _).grown hgrow (by simp) (by simp [Value.ownBlock])⟩
set_option maxHeartbeats 400000 in
theorem ownInt (v : Value) (l : List Int) (S : Blk) (w : World) (h0 : Sl tInt w S v l) (hl : l.length ≤ 1000000) :
    Calls Tryz.prog 170 #[v] w (Ret w fun r w' => Own tInt 3 w' w.heap.size (fun k => S k ∧ k < w.heap.size) r l) := by
  have h : Sl tInt w (fun k => S k ∧ k < w.heap.size) v l := h0.mono fun k hk hlt => ⟨hk, hlt⟩
  obtain ⟨ao, cap, rfl, hcap, hmax, hnil⟩ := h.shape
  cases ao with
  | none =>
    have hz := hnil rfl
    obtain rfl : l = [] := List.eq_nil_of_length_eq_zero (by omega)
    subst hz
    have hq := fun W => Lib.run_eql_slice_nil (P := Tryz.prog) W 57 3 none 0 0 0 0 Tryz.underlying57
    go_enter Tryz.func170, Tryz.ntmps170
    go_wp2
    go_ret
    exact ⟨_, rfl, .nil, Below.refl _ _⟩
  | some ad =>
    have hq := fun W => Lib.run_eql_slice_nil (P := Tryz.prog) W 57 3 (some ad) l.length cap 0 0 Tryz.underlying57
    have hs := fun W (hW : Below w.heap.size w W) => (h.call hW).src
    go_enter Tryz.func170, Tryz.ntmps170
    go_wp2_with (at_builtin; refine wpList_grow rfl (.tmp 5) (.tmp 6) rfl aInt rfl (Own.made (B := w.heap.size) (C := fun k => S k ∧ k < w.heap.size) _ (Nat.le_refl _)) rfl rfl (hs _ ((Below.refl _ _).alloc (Nat.le_refl _) _)) (by simp) (fun k hk _ => ⟨hk, fun e => absurd (Option.some.inj e) (Nat.ne_of_lt hk.2)⟩) (by simp; omega) (by simp) ?_)
    intro v1 w1 hown hgrow
    go_wp2
    go_ret
    exact ⟨_, rfl, hown, ((Below.refl _ _).alloc (Nat.le_refl _) _).grown hgrow (by simp) (by simp [Value.ownBlock])⟩
set_option maxHeartbeats 400000 in
theorem ownHead (v : Value) (l : List Head) (S : Blk) (w : World) (h0 : Sl tHead w S v l) (hl : l.length ≤ 1000000) :
    Calls Tryz.prog 168 #[v] w (Ret w fun r w' => Own tHead 61 w' w.heap.size (fun k => S k ∧ k < w.heap.size) r l) := by
  have h : Sl tHead w (fun k => S k ∧ k < w.heap.size) v l := h0.mono fun k hk hlt => ⟨hk, hlt⟩
  obtain ⟨ao, cap, rfl, hcap, hmax, hnil⟩ := h.shape
  cases ao with
  | none =>
    have hz := hnil rfl
    obtain rfl : l = [] := List.eq_nil_of_length_eq_zero (by omega)
    subst hz
    have hq := fun W => Lib.run_eql_slice_nil (P := Tryz.prog) W 31 61 none 0 0 0 0 Tryz.underlying31
    go_enter Tryz.func168, Tryz.ntmps168
    go_wp2
    go_ret
    exact ⟨_, rfl, .nil, Below.refl _ _⟩
  | some ad =>
    have hq := fun W => Lib.run_eql_slice_nil (P := Tryz.prog) W 31 61 (some ad) l.length cap 0 0 Tryz.underlying31
    have hs := fun W (hW : Below w.heap.size w W) => (h.call hW).src
    go_enter Tryz.func168, Tryz.ntmps168
    go_wp2_with (at_builtin; refine wpList_grow rfl (.tmp 5) (.tmp 6) rfl aHead rfl (Own.made (B := w.heap.size) (C := fun k => S k ∧ k < w.heap.size) _ (Nat.le_refl _)) rfl rfl (hs _ ((Below.refl _ _).alloc (Nat.le_refl _) _)) (by simp) (fun k hk _ => ⟨hk, fun e => absurd (Option.some.inj e) (Nat.ne_of_lt hk.2)⟩) (by simp; omega) (by simp) ?_)
    intro v1 w1 hown hgrow
    go_wp2
    go_ret
    exact ⟨_, rfl, hown, ((Below.refl _ _).alloc (Nat.le_refl _) _).grown hgrow (by simp) (by simp [Value.ownBlock])⟩
set_option maxHeartbeats 400000 in
theorem ownCom (v : Value) (l : List Commit) (S : Blk) (w : World) (h0 : Sl tCommit w S v l) (hl : l.length ≤ 1000000) :
    Calls Tryz.prog 169 #[v] w (Ret w fun r w' => Own tCommit 59 w' w.heap.size (fun k => S k ∧ k < w.heap.size) r l) := by
  have h : Sl tCommit w (fun k => S k ∧ k < w.heap.size) v l := h0.mono fun k hk hlt => ⟨hk, hlt⟩
  obtain ⟨ao, cap, rfl, hcap, hmax, hnil⟩ := h.shape
  cases ao with
  | none =>
    have hz := hnil rfl
    obtain rfl : l = [] := List.eq_nil_of_length_eq_zero (by omega)
    subst hz
    have hq := fun W => Lib.run_eql_slice_nil (P := Tryz.prog) W 30 59 none 0 0 0 0 Tryz.underlying30
    go_enter Tryz.func169, Tryz.ntmps169
    go_wp2
    go_ret
    exact ⟨_, rfl, .nil, Below.refl _ _⟩
  | some ad =>
    have hq := fun W => Lib.run_eql_slice_nil (P := Tryz.prog) W 30 59 (some ad) l.length cap 0 0 Tryz.underlying30
    have hs := fun W (hW : Below w.heap.size w W) => (h.call hW).src
    go_enter Tryz.func169, Tryz.ntmps169
    go_wp2_with (at_builtin; refine wpList_grow rfl (.tmp 5) (.tmp 6) rfl aCom rfl (Own.made (B := w.heap.size) (C := fun k => S k ∧ k < w.heap.size) _ (Nat.le_refl _)) rfl rfl (hs _ ((Below.refl _ _).alloc (Nat.le_refl _) _)) (by simp) (fun k hk _ => ⟨hk, fun e => absurd (Option.some.inj e) (Nat.ne_of_lt hk.2)⟩) (by simp; omega) (by simp) ?_)
    intro v1 w1 hown hgrow
    go_wp2
    go_ret
    exact ⟨_, rfl, hown, ((Below.refl _ _).alloc (Nat.le_refl _) _).grown hgrow (by simp) (by simp [Value.ownBlock])⟩
end Go.Pch
end

section
namespace Go.Pch
open Go.RowKit
theorem Own.setPart {α : Type} {E : Ty α} {e : TypeId} {w : World} {B : Nat} {C : Blk} {v : Value} {l : List α} (h : Own E e w B C v l) {i : Nat} {a : α} (hi : l[i]? = some a) :
    ∃ g cap cs, v = .slice (some ⟨g, 0, none⟩) l.length cap ∧ l.length ≤ cap ∧ cap ≤ maxLen ∧ B ≤ g ∧ g < w.heap.size ∧ E.rd w (fun k => C k ∧ k ≠ g) cs a ∧ (∀ j u, cs[j]? = some u → w.cell? ⟨g, i * E.size + j, none⟩ = some u) ∧ (∀ j, w.frozen? ⟨g, j, none⟩ = false) ∧
      ∀ j u' a', j < E.size → E.rd w (fun k => C k ∧ k ≠ g) (cs.set j u') a' → Own E e (w.setCell ⟨g, i * E.size + j, none⟩ u') B C v (l.set i a') := by
  have hil := (List.getElem?_eq_some_iff.1 hi).1
  obtain ⟨g, cap, cur, xs, rfl, hB, hg, hc, h1, h2, h3, h4, hX⟩ := h.cells (by omega)
  have hxl := hX.1
  obtain ⟨cs, hcs⟩ : ∃ cs, xs[i]? = some cs := ⟨xs[i]'(by omega), List.getElem?_eq_getElem _⟩
  have hrd := hX.2 i cs a hcs hi
  have hlen : cs.length = E.size := E.len hrd
  have hsz := E.pos
  have hcurget : ∀ m, m < l.length * E.size → cur[m]? = (xs[m / E.size]?).bind (·[m % E.size]?) := fun m hm => by
    have hf := flatten_get E.pos xs hX.lens m
    rw [← h4, List.getElem?_take_of_lt hm] at hf
    exact hf
  have hpos : ∀ j, j < E.size → i * E.size + j < l.length * E.size := fun j hj => by
    have : (i + 1) * E.size ≤ l.length * E.size := Nat.mul_le_mul_right _ hil
    rw [Nat.add_mul, Nat.one_mul] at this
    omega
  have hdm : ∀ j, j < E.size → (i * E.size + j) / E.size = i ∧ (i * E.size + j) % E.size = j := fun j hj =>
    ⟨by rw [Nat.mul_comm, Nat.mul_add_div E.pos, Nat.div_eq_of_lt hj]; rfl, by rw [Nat.mul_comm, Nat.mul_add_mod, Nat.mod_eq_of_lt hj]⟩
  have hcell : ∀ j u, cs[j]? = some u → w.cell? ⟨g, i * E.size + j, none⟩ = some u := fun j u hj => by
    have hjl := (List.getElem?_eq_some_iff.1 hj).1
    obtain ⟨d1, d2⟩ := hdm j (by omega)
    have := hcurget (i * E.size + j) (hpos j (by omega))
    rw [d1, d2, hcs] at this
    rw [World.cell?, hc]
    simpa using this.trans hj
  refine ⟨g, cap, cs, rfl, h1, h2, hB, hg, hrd, hcell, fun j => frozen_of_row w g j _ _ hc, fun j u' a' hj hu' => ?_⟩
  have hkeep : ∀ k, (fun k => C k ∧ k ≠ g) k → k < w.heap.size → (w.setCell ⟨g, i * E.size + j, none⟩ u').heap[k]? = w.heap[k]? := fun k hk _ => heap_setCell_other _ _ _ _ (by simpa using hk.2)
  have hnew : Own E e (w.setCell ⟨g, i * E.size + j, none⟩ u') B C (.slice (some ⟨g, 0, none⟩) (l.set i a').length cap) (l.set i a') := by
    refine Own.of_cells (cur := cur.set (i * E.size + j) u') (xs := xs.set i (cs.set j u')) hB ?_ (by simpa using h1) h2 (by rw [List.length_set]; exact h3) ?_ ⟨by simp [hX.1], fun m cs' a2 hj1 hj2 => ?_⟩
    · have := heap_setCell_same w g (i * E.size + j) _ e u' hc
      refine (show _ = _ from this).trans ?_
      simp
    · rw [List.length_set]
      refine List.ext_getElem? fun m => ?_
      have hf := flatten_get E.pos (xs.set i (cs.set j u')) (fun c hc => by
        rcases List.mem_or_eq_of_mem_set hc with h | rfl
        · exact hX.lens c h
        · rw [List.length_set]; exact hlen) m
      rw [hf, List.getElem?_take]
      by_cases hm : m < l.length * E.size
      · rw [if_pos hm]
        have hdiv : m / E.size * E.size + m % E.size = m := Nat.div_add_mod' m E.size
        have hmod : m % E.size < E.size := Nat.mod_lt _ E.pos
        by_cases hmi : i = m / E.size
        · have hset : (xs.set i (cs.set j u'))[m / E.size]? = some (cs.set j u') := by rw [← hmi]; exact List.getElem?_set_self (by omega)
          rw [hset]
          show _ = (cs.set j u')[m % E.size]?
          by_cases hmj : j = m % E.size
          · have hp : i * E.size + j = m := by rw [hmi, hmj]; exact hdiv
            rw [hp, List.getElem?_set_self (by rw [h3]; have := Nat.mul_le_mul_right E.size h1; omega), hmj, List.getElem?_set_self (by omega)]
          · have hp : i * E.size + j ≠ m := fun e => hmj (by rw [← e]; exact ((hdm j hj).2).symm)
            rw [List.getElem?_set_ne hp, List.getElem?_set_ne hmj, hcurget m hm, ← hmi, hcs]
            rfl
        · have hp : i * E.size + j ≠ m := fun e => hmi (by rw [← e]; exact ((hdm j hj).1).symm)
          rw [List.getElem?_set_ne hp, List.getElem?_set_ne hmi]
          exact hcurget m hm
      · rw [if_neg hm, List.getElem?_eq_none (by
          rw [List.length_set, hX.1]
          exact (Nat.le_div_iff_mul_le E.pos).2 (by omega))]
        rfl
    · by_cases hmi : i = m
      · subst hmi
        rw [List.getElem?_set_self (by rw [hX.1]; exact hil)] at hj1
        rw [List.getElem?_set_self hil] at hj2
        obtain rfl := Option.some.inj hj1
        obtain rfl := Option.some.inj hj2
        exact E.keep hu' hkeep
      · rw [List.getElem?_set_ne hmi] at hj1 hj2
        exact E.keep (hX.2 m cs' a2 hj1 hj2) hkeep
  rwa [List.length_set] at hnew
theorem Own.regard {α : Type} {E : Ty α} {e : TypeId} {w : World} {B : Nat} {C D : Blk} {v : Value} {l : List α} (h : Own E e w B C v l)
    (hJ : ∀ g cap, v = .slice (some ⟨g, 0, none⟩) l.length cap → ∀ i a, l[i]? = some a → ∃ cs, cs.length = E.size ∧ (∀ j u, cs[j]? = some u → w.cell? ⟨g, i * E.size + j, none⟩ = some u) ∧ E.rd w (fun k => D k ∧ k ≠ g) cs a) : Own E e w B D v l := by
  obtain ⟨xs, hr, hE⟩ := h
  refine ⟨xs, hr, hE.1, fun i cs a h1 h2 => ?_⟩
  have hil := (List.getElem?_eq_some_iff.1 h2).1
  have hr0 := hr
  rcases hr.2 with ⟨rfl, h0⟩ | ⟨g, cap, cur, rfl, hb, hg, _, _, h3, h4⟩
  · have := List.eq_nil_of_length_eq_zero h0
    subst this
    simp at h2
  · obtain ⟨cs', hl', hc', hrd⟩ := hJ g cap rfl i a h2
    have hsz : cs.length = E.size := hE.lens cs (List.mem_of_getElem? h1)
    have he : cs' = cs := by
      refine List.ext_getElem? fun j => ?_
      by_cases hj : j < E.size
      · have hu : cs[j]? = some (cs[j]'(by omega)) := List.getElem?_eq_getElem _
        have := hr0.cells (g := g) rfl (i * E.size + j) (cs[j]'(by omega)) (by
          rw [flatten_get E.pos xs hE.lens]
          have e1 : (i * E.size + j) / E.size = i := by
            rw [Nat.mul_comm, Nat.mul_add_div E.pos, Nat.div_eq_of_lt (by omega)]; rfl
          have e2 : (i * E.size + j) % E.size = j := by
            rw [Nat.mul_comm, Nat.mul_add_mod, Nat.mod_eq_of_lt (by omega)]
          rw [e1, e2, h1]
          exact hu)
        have h2' := hc' j (cs'[j]'(by omega)) (List.getElem?_eq_getElem _)
        rw [Addr.add_lit, Nat.zero_add, h2'] at this
        rw [hu, List.getElem?_eq_getElem (by omega)]
        exact this
      · rw [List.getElem?_eq_none (by omega), List.getElem?_eq_none (by omega)]
    subst he
    exact E.mono hrd fun k hk _ => ⟨hk.1, by simpa [Value.ownBlock] using hk.2⟩
end Go.Pch
end
