/- Plain words of chapter 7: three ways; no program is named here. Chapter 10: what Put, Branch, Drop and Merge answer: plain words. -/
import Derived.Test.YtjjkdpjjaijmbaaGreatDoorDg6
section
namespace Go.Pch
def errL : List (List Row) → Int
  | [] => 0
  | l :: m => if rowsErr l = 0 then errL m else rowsErr l
theorem errL_go {X : List (List Row)} {k : Nat} {l : List Row} (h : X[k]? = some l) (hl : rowsErr l = 0) : errL (X.drop k) = errL (X.drop (k + 1)) := by
  obtain ⟨hk, rfl⟩ := List.getElem?_eq_some_iff.1 h
  rw [List.drop_eq_getElem_cons hk, errL, if_pos hl]
theorem errL_stop {X : List (List Row)} {k : Nat} {l : List Row} (h : X[k]? = some l) (hl : rowsErr l ≠ 0) : errL (X.drop k) = rowsErr l := by
  obtain ⟨hk, rfl⟩ := List.getElem?_eq_some_iff.1 h
  rw [List.drop_eq_getElem_cons hk, errL, if_neg hl]
theorem errL_three {a b c : List Row} (h : errL [a, b, c] = 0) : rowsErr a = 0 ∧ rowsErr b = 0 ∧ rowsErr c = 0 := by
  unfold errL at h
  split at h
  · rename_i ha
    unfold errL at h
    split at h
    · rename_i hb
      unfold errL at h
      split at h
      · rename_i hc
        exact ⟨ha, hb, hc⟩
      · exact absurd h (by assumption)
    · exact absurd h (by assumption)
  · exact absurd h (by assumption)
def mergeT (x y z : Int → Int) (k : Int) : Int := if y k = z k then y k else if y k = x k then z k else y k
def clashFrom (x y z : Int → Int) : Nat → Int → List Int
  | 0, _ => []
  | n + 1, k => if y k ≠ z k ∧ y k ≠ x k ∧ z k ≠ x k then k :: clashFrom x y z n (k + 1) else clashFrom x y z n (k + 1)
def mergeL (base a b : List Row) : List Row := folded (mergeT (valueOf base) (valueOf a) (valueOf b))
def clashL (base a b : List Row) : List Int := clashFrom (valueOf base) (valueOf a) (valueOf b) 100 0
def mergeP (base a b : List Row) : List Row × List Int × Int :=
  if errL [base, a, b] = 0 then (if 40 < (mergeL base a b).length then ([], [], 2) else (mergeL base a b, clashL base a b, 0)) else ([], [], errL [base, a, b])
theorem mergeT_bounds {x y z : Int → Int} (hy : ∀ k, -1 ≤ y k ∧ y k ≤ 996) (hz : ∀ k, -1 ≤ z k ∧ z k ≤ 996) (k : Int) : -1 ≤ mergeT x y z k ∧ mergeT x y z k ≤ 996 := by
  unfold mergeT
  have := hy k; have := hz k
  split
  · assumption
  · split <;> assumption
theorem mergeL_rise {base a b : List Row} (ha : riseB (-1) a = true) (hb : riseB (-1) b = true) : riseB (-1) (mergeL base a b) = true :=
  folded_rise _ (mergeT_bounds (valueOf_bounds ha) (valueOf_bounds hb))
theorem clash_len (x y z : Int → Int) : ∀ (n : Nat) (k : Int), (clashFrom x y z n k).length ≤ n
  | 0, _ => Nat.le_refl _
  | n + 1, k => by
    have := clash_len x y z n (k + 1)
    rw [clashFrom]
    split
    · simp; omega
    · omega
theorem mem_clash {x y z : Int → Int} {j : Int} : ∀ (n : Nat) (k : Int), j ∈ clashFrom x y z n k ↔ k ≤ j ∧ j < k + n ∧ y j ≠ z j ∧ y j ≠ x j ∧ z j ≠ x j
  | 0, k => by simp [clashFrom]; omega
  | n + 1, k => by
    have ih := mem_clash (x := x) (y := y) (z := z) (j := j) n (k + 1)
    rw [clashFrom]
    by_cases h : y k ≠ z k ∧ y k ≠ x k ∧ z k ≠ x k
    · rw [if_pos h, List.mem_cons, ih]
      constructor
      · rintro (rfl | ⟨h1, h2, h3⟩)
        · exact ⟨Int.le_refl _, by omega, h⟩
        · exact ⟨by omega, by omega, h3⟩
      · rintro ⟨h1, h2, h3⟩
        by_cases hj : j = k
        · exact .inl hj
        · exact .inr ⟨by omega, by omega, h3⟩
    · rw [if_neg h, ih]
      constructor
      · rintro ⟨h1, h2, h3⟩; exact ⟨by omega, by omega, h3⟩
      · rintro ⟨h1, h2, h3⟩
        by_cases hj : j = k
        · subst hj; exact absurd h3 h
        · exact ⟨by omega, by omega, h3⟩
def mapOf (d : List Change) : Int → Option Int := d.foldl (fun f c => fun j => if j = c.1 then some (c.2.2 + 2) else f j) fun _ => none
theorem mapOf_snoc (d : List Change) (c : Change) : mapOf (d ++ [c]) = fun j => if j = c.1 then some (c.2.2 + 2) else mapOf d j := by
  rw [mapOf, List.foldl_append]; rfl
theorem mapOf_fold : ∀ (d : List Change) (f : Int → Option Int) (k : Int),
    (∀ v, d.foldl (fun f c => fun j => if j = c.1 then some (c.2.2 + 2) else f j) f k = some v → f k = some v ∨ ∃ c ∈ d, c.1 = k ∧ v = c.2.2 + 2) ∧
    (d.foldl (fun f c => fun j => if j = c.1 then some (c.2.2 + 2) else f j) f k = none → f k = none ∧ ∀ c ∈ d, c.1 ≠ k)
  | [], f, k => ⟨fun v h => .inl h, fun h => ⟨h, by simp⟩⟩
  | c :: d, f, k => by
    obtain ⟨h1, h2⟩ := mapOf_fold d (fun j => if j = c.1 then some (c.2.2 + 2) else f j) k
    rw [List.foldl_cons]
    refine ⟨fun v h => ?_, fun h => ?_⟩
    · rcases h1 v h with h | ⟨e, he, h⟩
      · by_cases hk : k = c.1
        · rw [if_pos hk] at h
          exact .inr ⟨c, by simp, hk.symm, (Option.some.inj h).symm⟩
        · rw [if_neg hk] at h
          exact .inl h
      · exact .inr ⟨e, by simp [he], h⟩
    · obtain ⟨h3, h4⟩ := h2 h
      by_cases hk : k = c.1
      · rw [if_pos hk] at h3; cases h3
      · rw [if_neg hk] at h3
        exact ⟨h3, fun e he => by rcases List.mem_cons.1 he with rfl | he; exact fun e => hk e.symm; exact h4 e he⟩
theorem mapOf_diff {x y : Int → Int} {k : Int} (h0 : 0 ≤ k) (h1 : k ≤ 99) : mapOf (diffL x y) k = if x k = y k then none else some (y k + 2) := by
  obtain ⟨h2, h3⟩ := mapOf_fold (diffL x y) (fun _ => none) k
  change (∀ v, mapOf (diffL x y) k = some v → _) at h2
  change (mapOf (diffL x y) k = none → _) at h3
  cases hm : mapOf (diffL x y) k with
  | none =>
    by_cases he : x k = y k
    · rw [if_pos he]
    · exact absurd rfl ((h3 hm).2 (k, x k, y k) ((mem_diff 100 0).2 ⟨h0, by show k < _; omega, rfl, rfl, he⟩))
  | some v =>
    rcases h2 v hm with h | ⟨c, hc, rfl, rfl⟩
    · cases h
    · obtain ⟨_, _, _, e2, e3⟩ := (mem_diff 100 0).1 hc
      rw [if_neg e3, e2]
def freeB (f : Int → Option Int) (c : Change) : Bool := decide ((f c.1).getD 0 = 0)
def clashB (f : Int → Option Int) (c : Change) : Bool := !decide ((f c.1).getD 0 = 0) && !decide ((f c.1).getD 0 = c.2.2 + 2)
theorem fineC_filter (p : Change → Bool) : ∀ {m : Int} {d : List Change}, fineC m d = true → fineC m (d.filter p) = true
  | _, [], _ => rfl
  | m, x :: d, h => by
    rw [fineC_cons] at h
    have ih := fineC_filter p h.2
    rw [List.filter_cons]
    split
    · rw [fineC_cons]; exact ⟨h.1, ih⟩
    · exact fineC_weaken ih (by omega)
theorem merge_rows {base a b : List Row} (h0 : riseB (-1) base = true) (ha : riseB (-1) a = true) (hb : riseB (-1) b = true) {f : Int → Option Int} (hf : f = mapOf (betw base a)) :
    setAll a ((betw base b).filter (freeB f)) = mergeL base a b := by
  have hd := diffL_fine (valueOf_bounds h0) (valueOf_bounds hb)
  rw [betw_diff h0 ha] at hf
  rw [betw_diff h0 hb]
  have hff := fineC_filter (freeB f) hd
  refine rows_ext (setAll_rise (by omega) ha hff) (mergeL_rise ha hb) fun k h1 h2 => ?_
  have hk0 : 0 ≤ k := by omega
  have hfk : f k = if valueOf base k = valueOf a k then none else some (valueOf a k + 2) := by rw [hf]; exact mapOf_diff hk0 h2
  have hya := valueOf_bounds ha k
  rw [setAll_value (by omega) ha hff, mergeL, folded_value _ k hk0 h2]
  cases hs : ((diffL (valueOf base) (valueOf b)).filter (freeB f)).find? (fun x => decide (x.1 = k)) with
  | some c =>
    have hc1 := List.find?_some hs
    have hc2 := List.mem_of_find?_eq_some hs
    obtain ⟨hc3, hc4⟩ := List.mem_filter.1 hc2
    obtain ⟨_, _, e1, e2, e3⟩ := (mem_diff 100 0).1 hc3
    have hc1' : c.1 = k := by simpa using hc1
    rw [hc1'] at e1 e2 e3
    simp only [freeB, decide_eq_true_eq, hc1', hfk] at hc4
    have hxy : valueOf base k = valueOf a k := by
      by_cases h : valueOf base k = valueOf a k
      · exact h
      · rw [if_neg h] at hc4; simp at hc4; omega
    show c.2.2 = _
    rw [e2, mergeT, if_neg (by omega), if_pos hxy.symm]
  | none =>
    have hno := List.find?_eq_none.1 hs
    show valueOf a k = _
    unfold mergeT
    by_cases h3 : valueOf a k = valueOf b k
    · rw [if_pos h3]
    · rw [if_neg h3]
      by_cases h4 : valueOf a k = valueOf base k
      · have hm : (k, valueOf base k, valueOf b k) ∈ (diffL (valueOf base) (valueOf b)).filter (freeB f) := by
          refine List.mem_filter.2 ⟨(mem_diff 100 0).2 ⟨hk0, by show k < _; omega, rfl, rfl, by show valueOf base k ≠ valueOf b k; omega⟩, ?_⟩
          simp only [freeB, hfk, if_pos h4.symm]
          rfl
        exact absurd (hno _ hm) (by simp)
      · rw [if_neg h4]
theorem merge_clash {base a b : List Row} (h0 : riseB (-1) base = true) (ha : riseB (-1) a = true) (hb : riseB (-1) b = true) {f : Int → Option Int} (hf : f = mapOf (betw base a)) :
    ((betw base b).filter (clashB f)).map (·.1) = clashL base a b := by
  rw [betw_diff h0 ha] at hf
  rw [betw_diff h0 hb]
  have go : ∀ (n : Nat) (k : Int), 0 ≤ k → k + n ≤ 100 → ((diffFrom (valueOf base) (valueOf b) n k).filter (clashB f)).map (·.1) = clashFrom (valueOf base) (valueOf a) (valueOf b) n k := by
    intro n
    induction n with
    | zero => intros; rfl
    | succ n ih =>
      intro k hk0 hkn
      have ih := ih (k + 1) (by omega) (by omega)
      have hfk : f k = if valueOf base k = valueOf a k then none else some (valueOf a k + 2) := by rw [hf]; exact mapOf_diff hk0 (by omega)
      have hya := valueOf_bounds ha k
      rw [diffFrom, clashFrom]
      by_cases h1 : valueOf base k = valueOf b k
      · rw [if_pos h1, if_neg (by omega), ih]
      · rw [if_neg h1, List.filter_cons]
        by_cases h2 : valueOf base k = valueOf a k
        · have : clashB f (k, valueOf base k, valueOf b k) = false := by simp only [clashB, hfk, if_pos h2]; rfl
          rw [this, if_neg (by simp), if_neg (by omega), ih]
        · by_cases h3 : valueOf a k = valueOf b k
          · have : clashB f (k, valueOf base k, valueOf b k) = false := by simp [clashB, hfk, h3, h1]
            rw [this, if_neg (by simp), if_neg (by omega), ih]
          · have : clashB f (k, valueOf base k, valueOf b k) = true := by
              simp only [clashB, hfk, if_neg h2, Option.getD_some, Bool.and_eq_true, Bool.not_eq_true', decide_eq_false_iff_not]
              omega
            rw [this, if_pos rfl, if_pos (by omega), List.map_cons, ih]
  exact go 100 0 (by omega) (by omega)
end Go.Pch
end

section
namespace Go.Pch
open Go.RowKit Go.Proofs
def noRepo : Repo := ([], [])
def moved (hs : List Head) (k : Nat) (n : Int) : List Head := hs.set k ((hs[k]?.getD (ByteArray.empty, 0)).1, n)
def grown (r : Repo) (k : Nat) (rows : List Row) (ps : List Int) : Repo := (r.1 ++ [(rows, ps)], moved r.2 k r.1.length)
def rowsN (l : List Commit) (n : Nat) : List Row := (l[n]?.getD ([], [])).1
def putN (r : Repo) (s : ByteArray) (d : List Change) (n : Nat) : Repo × Int :=
  if fineC (-1) d = true then (if d.length = 0 then (noRepo, 9) else if r.1.length = 14 then (noRepo, 2) else if (patchP (rowsN r.1 n) d).2 = 0 then (grown r (hdN r.2 s) (patchP (rowsN r.1 n) d).1 [(n : Int)], 0) else (noRepo, (patchP (rowsN r.1 n) d).2)) else (noRepo, 1)
def jPut (r : Repo) (s : ByteArray) (d : List Change) : Repo × Int := if (headP r s).2 = 0 then putN r s d (headP r s).1.toNat else (noRepo, (headP r s).2)
def branchN (r : Repo) (s : ByteArray) (n : Int) : Repo × Int :=
  if nameB s = true then (if hdHas r.2 s = true then (noRepo, 6) else if r.2.length = 4 then (noRepo, 2) else ((r.1, r.2.take (hdN r.2 s) ++ (s, n) :: r.2.drop (hdN r.2 s)), 0)) else (noRepo, 4)
def jBranch (r : Repo) (s f : ByteArray) : Repo × Int := if (headP r f).2 = 0 then branchN r s (headP r f).1 else (noRepo, (headP r f).2)
def jDrop (r : Repo) (s : ByteArray) : Repo × Int :=
  if (headP r s).2 = 0 then (if r.2.length = 1 then (noRepo, 1) else ((r.1, r.2.take (hdN r.2 s) ++ r.2.drop (hdN r.2 s + 1)), 0)) else (noRepo, (headP r s).2)
def baseN (l : List Commit) (a b : Nat) : List Row := match (basesL l a b).getLast? with
  | some k => rowsN l k.toNat
  | none => []
def joinN (r : Repo) (s : ByteArray) (a b : Nat) : Repo × List Int × Int :=
  if ab r.1 a b = true then (noRepo, [], 9) else if ab r.1 b a = true then ((r.1, moved r.2 (hdN r.2 s) b), [], 0) else if r.1.length = 14 then (noRepo, [], 2) else
  if (mergeP (baseN r.1 a b) (rowsN r.1 a) (rowsN r.1 b)).2.2 = 0 then
    (if (mergeP (baseN r.1 a b) (rowsN r.1 a) (rowsN r.1 b)).2.1.length = 0 then (grown r (hdN r.2 s) (mergeP (baseN r.1 a b) (rowsN r.1 a) (rowsN r.1 b)).1 [min (a : Int) b, max (a : Int) b], [], 0)
     else (noRepo, (mergeP (baseN r.1 a b) (rowsN r.1 a) (rowsN r.1 b)).2.1, 7))
  else (noRepo, [], (mergeP (baseN r.1 a b) (rowsN r.1 a) (rowsN r.1 b)).2.2)
def jJoin (r : Repo) (s f : ByteArray) : Repo × List Int × Int :=
  if (headP r s).2 = 0 then (if (headP r f).2 = 0 then joinN r s (headP r s).1.toNat (headP r f).1.toNat else (noRepo, [], (headP r f).2)) else (noRepo, [], (headP r s).2)
theorem jPut_bad {r : Repo} {s : ByteArray} {d : List Change} (h : (headP r s).2 ≠ 0) : jPut r s d = (noRepo, (headP r s).2) := by rw [jPut, if_neg h]
theorem jPut_at {r : Repo} {s : ByteArray} {d : List Change} {n : Nat} (h : headP r s = ((n : Int), 0)) : jPut r s d = putN r s d n := by rw [jPut, h]; simp
theorem jBranch_bad {r : Repo} {s f : ByteArray} (h : (headP r f).2 ≠ 0) : jBranch r s f = (noRepo, (headP r f).2) := by rw [jBranch, if_neg h]
theorem jBranch_at {r : Repo} {s f : ByteArray} {n : Int} (h : headP r f = (n, 0)) : jBranch r s f = branchN r s n := by rw [jBranch, h]; simp
theorem jDrop_bad {r : Repo} {s : ByteArray} (h : (headP r s).2 ≠ 0) : jDrop r s = (noRepo, (headP r s).2) := by rw [jDrop, if_neg h]
theorem jJoin_bad {r : Repo} {s f : ByteArray} (h : (headP r s).2 ≠ 0) : jJoin r s f = (noRepo, [], (headP r s).2) := by rw [jJoin, if_neg h]
theorem jJoin_bad2 {r : Repo} {s f : ByteArray} {a : Int} (h : headP r s = (a, 0)) (g : (headP r f).2 ≠ 0) : jJoin r s f = (noRepo, [], (headP r f).2) := by rw [jJoin, h]; simp [g]
theorem jJoin_at {r : Repo} {s f : ByteArray} {a b : Nat} (h : headP r s = ((a : Int), 0)) (g : headP r f = ((b : Int), 0)) : jJoin r s f = joinN r s a b := by rw [jJoin, h, g]; simp
theorem rowsN_is {l : List Commit} {n : Nat} {c : Commit} (h : l[n]? = some c) : rowsN l n = c.1 := by rw [rowsN, h]; rfl
theorem moved_is {hs : List Head} {k : Nat} {x : Head} (h : hs[k]? = some x) (n : Int) : moved hs k n = hs.set k (x.1, n) := by rw [moved, h]; rfl
theorem moved_len (hs : List Head) (k : Nat) (n : Int) : (moved hs k n).length = hs.length := by rw [moved, List.length_set]
theorem headsRise_more {n m : Nat} (hnm : n ≤ m) : ∀ {last : List UInt8} {hs : List Head}, headsRise n last hs = true → headsRise m last hs = true
  | _, [], _ => rfl
  | last, h :: hs, hr => by
    simp only [headsRise, Bool.and_eq_true, decide_eq_true_eq] at hr ⊢
    exact ⟨⟨hr.1.1, hr.1.2.1, by omega⟩, headsRise_more hnm hr.2⟩
def openE (r : Repo) : List ByteArray → Int
  | [] => 0
  | s :: l => if (headP r s).2 = 0 then openE r l else (headP r s).2
theorem openE_one {r : Repo} {s : ByteArray} : openE r [s] = (headP r s).2 := by
  rw [openE]; split <;> simp_all [openE]
theorem openE_two {r : Repo} {s f : ByteArray} : openE r [s, f] = if (headP r s).2 = 0 then (headP r f).2 else (headP r s).2 := by
  rw [openE, openE_one]
end Go.Pch
end
