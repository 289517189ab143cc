/- Plain words of chapter 4: down a tree to a key; a range of keys; no program is named here. -/
import Derived.Test.YtdbecbjhgiljoaaTreeR
import Derived.Test.YtdbecbjhgiljoaaRowP
namespace Go.Pch

theorem seekN_app : ∀ (a b : List Row) (k : Int), seekN (a ++ b) k = if seekN a k = a.length then a.length + seekN b k else seekN a k
  | [], b, k => by simp [seekN]
  | r :: a, b, k => by
    have ih := seekN_app a b k
    have hle := seekN_le a k
    rw [List.cons_append, seekN, seekN]
    by_cases h : r.1 < k
    · rw [if_pos h, if_pos h, ih, List.length_cons]
      by_cases h2 : seekN a k = a.length
      · rw [if_pos h2, if_pos (by omega)]; omega
      · rw [if_neg h2, if_neg (by omega)]
    · rw [if_neg h, if_neg h, if_neg (by simp)]
theorem seekN_full {l : List Row} {k : Int} : seekN l k = l.length ↔ ∀ r ∈ l, r.1 < k := by
  induction l with
  | nil => simp [seekN]
  | cons r l ih =>
    rw [seekN]
    by_cases h : r.1 < k
    · rw [if_pos h, List.length_cons]
      constructor
      · intro h2 q hq
        rcases List.mem_cons.1 hq with rfl | hq
        · exact h
        · exact ih.1 (by omega) q hq
      · intro h2
        rw [ih.2 fun q hq => h2 q (by simp [hq])]
    · rw [if_neg h]
      constructor
      · intro h2; simp at h2
      · intro h2; exact absurd (h2 r (by simp)) h
theorem seekN_stop {l : List Row} {k : Int} {i : Nat} (hi : i < l.length) (h : seekN l k = i) : k ≤ l[i].1 := by
  induction l generalizing i with
  | nil => simp at hi
  | cons r l ih =>
    rw [seekN] at h
    split at h
    · subst h
      exact ih (by simpa using hi) rfl
    · subst h
      simp only [List.getElem_cons_zero]
      omega

/-- The last key. -/
def lastK (l : List Row) : Int := (l.getLast?.getD (0, 0)).1
theorem tell_key (c : List Row) : (tell c).1 = lastK c := rfl
theorem lastK_app {a b : List Row} (h : b ≠ []) : lastK (a ++ b) = lastK b := by
  unfold lastK
  rw [List.getLast?_append, List.getLast?_eq_some_getLast h, Option.some_or]
theorem lastK_le {m : Int} : ∀ {l : List Row}, riseB m l = true → ∀ r ∈ l, r.1 ≤ lastK l
  | [], _, r, hr => by cases hr
  | [q], _, r, hr => by
    simp only [List.mem_singleton] at hr
    subst hr
    exact Int.le_refl _
  | q :: p :: l, h, r, hr => by
    rw [riseB_cons] at h
    have ih := lastK_le h.2
    have e : lastK (q :: p :: l) = lastK (p :: l) := by unfold lastK; rw [List.getLast?_cons_cons]
    rw [e]
    rcases List.mem_cons.1 hr with rfl | hr
    · have h1 := ih p (by simp)
      have h2 := h.2
      rw [riseB_cons] at h2
      omega
    · exact ih r hr
theorem lastK_mem {l : List Row} (h : l ≠ []) : ∃ r ∈ l, r.1 = lastK l := by
  refine ⟨l.getLast h, List.getLast_mem h, ?_⟩
  unfold lastK
  rw [List.getLast?_eq_some_getLast h]; rfl
theorem lastK_tell : ∀ {X : List (List Row)}, (∀ c ∈ X, c ≠ []) → X ≠ [] → lastK (X.map tell) = lastK X.flatten
  | [], _, h => absurd rfl h
  | [c], _, _ => by
    rw [List.flatten_cons, List.flatten_nil, List.append_nil]
    simp only [List.map_cons, List.map_nil]
    show (tell c).1 = _
    exact tell_key c
  | c :: d :: X, h, _ => by
    have ih := lastK_tell (X := d :: X) (fun e he => h e (by simp [he])) (by simp)
    have hne : (d :: X).flatten ≠ [] := by
      rw [List.flatten_cons]
      intro e
      exact h d (by simp) (List.append_eq_nil_iff.1 e).1
    rw [List.flatten_cons, lastK_app hne, ← ih, List.map_cons]
    exact lastK_app (a := [tell c]) (by simp)

/-- Every level of a right tree: its chunks are right, its rows rise. -/
theorem treeN_ok : ∀ (i : Nat) (n : Int) (l : List Row) (x : List (List Row)), rowsErr l = 0 → (treeN n l)[i]? = some x → rowsErr x.flatten = 0 ∧ x ≠ [] ∧ (∀ c ∈ x, c ≠ [] ∧ rowsErr c = 0) ∧ lastK x.flatten = lastK l
  | i, n, l, x, ho, hx => by
    by_cases hl : l = []
    · subst hl; simp [treeN_nil] at hx
    · have hpos := chunks_pos (n := n) hl
      have base : rowsErr (chunks n l).flatten = 0 ∧ chunks n l ≠ [] ∧ (∀ c ∈ chunks n l, c ≠ [] ∧ rowsErr c = 0) ∧ lastK (chunks n l).flatten = lastK l :=
        ⟨by rw [chunks_flatten]; exact ho, fun e => by rw [e] at hpos; simp at hpos, chunk_ok ho n, by rw [chunks_flatten]⟩
      by_cases h1 : (chunks n l).length = 1
      · rw [treeN_top hl h1] at hx
        have := List.mem_of_getElem? hx
        simp at this
        subst this
        exact base
      · rw [treeN_more hl h1] at hx
        cases i with
        | zero => simp at hx; subst hx; exact base
        | succ i =>
          simp only [List.getElem?_cons_succ] at hx
          obtain ⟨a, b, c, d⟩ := treeN_ok i (n + 1) _ x (told_ok ho n) hx
          refine ⟨a, b, c, d.trans ?_⟩
          rw [lastK_tell (fun c hc => (base.2.2.1 c hc).1) base.2.1, chunks_flatten]

/-- Where one stands on the way down: which chunk of a level. -/
structure Stands (t : List (List (List Row))) (key : Int) (n at' : Nat) : Prop where
  there : ∃ X c, t[n]? = some X ∧ X[at']? = some c ∧ (n + 1 < t.length → key ≤ lastK c) ∧ (n + 1 = t.length → at' = 0 ∧ X.length = 1) ∧ ∀ r ∈ (X.take at').flatten, r.1 < key

theorem stands_top {t : List (List (List Row))} (ht : treeErr t = 0) (h0 : t ≠ []) (key : Int) : Stands t key (t.length - 1) 0 := by
  obtain ⟨init, c, hX, _, _, _⟩ := treeErr_last ht h0
  have hl : t.length = init.length + 1 := by rw [hX]; simp
  exact ⟨[c], c, by rw [hX]; simp, rfl, fun h => by omega, fun _ => ⟨rfl, rfl⟩, by simp⟩

/-- What is found at a chunk of a level. -/
theorem stands_at {t : List (List (List Row))} (ht : treeErr t = 0) {key : Int} {n at' : Nat} (h : Stands t key n at') :
    ∃ X c, t[n]? = some X ∧ X[at']? = some c ∧ c ≠ [] ∧ rowsErr c = 0 ∧ rowsErr X.flatten = 0 ∧ X.length ≤ 40 ∧
      -- the key is behind all
      (seekN c key = c.length → valueOf (flatL t) key = -1 ∧ ¬ (flatL t ≠ [] ∧ key ≤ lastK (flatL t))) ∧
      (seekN c key ≠ c.length → (flatL t ≠ [] ∧ key ≤ lastK (flatL t)) ∧ seekN X.flatten key = skipN X at' + seekN c key ∧
        (n = 0 → valueOf (flatL t) key = valueOf c key) ∧ (0 < n → Stands t key (n - 1) (skipN X at' + seekN c key))) := by
  obtain ⟨X, c, hX, hc, hlow, htop, hpre⟩ := h.there
  obtain ⟨ho, hl⟩ := treeErr_ok ht
  have hX' : (treeN 0 (flatL t))[n]? = some X := by
    have : treeN 0 (flatL t) = treeL (flatL t) := rfl
    rw [this, hl]; exact hX
  obtain ⟨r1, r2, r3, r4⟩ := treeN_ok n 0 _ X ho hX'
  have hwide := treeN_wide n 0 _ X hX'
  have h40 := (ok_rise ho).1
  obtain ⟨c1, c2⟩ := r3 c (List.mem_of_getElem? hc)
  have hrise := (ok_rise r1).2
  have hat := (List.getElem?_eq_some_iff.1 hc).1
  have hsplit : X.flatten = (X.take at').flatten ++ (c ++ (X.drop (at' + 1)).flatten) := by
    conv => lhs; rw [← List.take_append_drop at' X, List.drop_eq_getElem_cons hat, (List.getElem?_eq_some_iff.1 hc).2]
    rw [List.flatten_append, List.flatten_cons]
  have hpf : seekN (X.take at').flatten key = (X.take at').flatten.length := seekN_full.2 hpre
  have hfne : flatL t ≠ [] := by
    intro e
    rw [e] at hl
    rw [← hl] at hX
    simp [treeL_nil] at hX
  have hls := lastK_le (ok_rise c2).2
  refine ⟨X, c, hX, hc, c1, c2, r1, by omega, fun hfull => ?_, fun hnf => ?_⟩
  · -- only at the top
    have hall := seekN_full.1 hfull
    obtain ⟨q, hq1, hq2⟩ := lastK_mem c1
    have hlt := hall q hq1
    have hn : n + 1 = t.length := by
      have hnl := (List.getElem?_eq_some_iff.1 hX).1
      by_cases hh : n + 1 < t.length
      · have := hlow hh; omega
      · omega
    obtain ⟨rfl, hone⟩ := htop hn
    have hXc : X = [c] := by
      match X, hone, hc with
      | [d], _, hc => simp at hc; rw [hc]
    have hk : lastK (flatL t) < key := by
      rw [← r4, hXc]
      simp only [List.flatten_cons, List.flatten_nil, List.append_nil]
      omega
    refine ⟨?_, fun h => by have := h.2; omega⟩
    refine valueOf_hasnt (ok_rise ho).2 ?_
    unfold hasB
    rw [seekN_full.2 fun r hr => by have := lastK_le (ok_rise ho).2 r hr; omega, List.getElem?_eq_none (Nat.le_refl _)]
  · have hle := seekN_le c key
    have hlt : seekN c key < c.length := by omega
    have hseek : seekN X.flatten key = skipN X at' + seekN c key := by
      rw [hsplit, seekN_app, if_pos hpf, seekN_app, if_neg hnf]; rfl
    have hkc : key ≤ c[seekN c key].1 := seekN_stop hlt rfl
    have hkl : key ≤ lastK c := by have := hls _ (List.getElem_mem hlt); omega
    have hin : ∀ r ∈ c, r ∈ X.flatten := fun r hr => List.mem_flatten.2 ⟨c, List.mem_of_getElem? hc, hr⟩
    have hlast : key ≤ lastK (flatL t) := by
      rw [← r4]
      have := lastK_le hrise _ (hin _ (List.getElem_mem hlt))
      omega
    refine ⟨⟨hfne, hlast⟩, hseek, fun hn => ?_, fun hn => ?_⟩
    · subst hn
      have hfl : flatL t = X.flatten := by
        cases t with
        | nil => simp at hX
        | cons x t => simp at hX; subst hX; rfl
      rw [hfl, valueOf_seek hrise, valueOf_seek (ok_rise c2).2, hseek]
      have e : X.flatten[skipN X at' + seekN c key]? = c[seekN c key]? := by
        rw [hsplit, List.getElem?_append_right (by show (X.take at').flatten.length ≤ _; unfold skipN; omega)]
        rw [show skipN X at' + seekN c key - (X.take at').flatten.length = seekN c key by unfold skipN; omega, List.getElem?_append_left hlt]
      rw [e]
    · -- one level down
      have hnl := (List.getElem?_eq_some_iff.1 hX).1
      obtain ⟨X', hX1⟩ : ∃ X', t[n - 1]? = some X' := ⟨t[n - 1], List.getElem?_eq_getElem (by omega)⟩
      have hX1' : (treeN 0 (flatL t))[n - 1]? = some X' := by
        have : treeN 0 (flatL t) = treeL (flatL t) := rfl
        rw [this, hl]; exact hX1
      obtain ⟨htell, hch⟩ := treeN_tells (n - 1) 0 _ X' X ho hX1' (by rw [show n - 1 + 1 = n by omega]; exact hX')
      have hal : skipN X at' + seekN c key < X'.length := by
        have h1 : seekN X.flatten key < X.flatten.length := by
          rw [hseek, hsplit, List.length_append, List.length_append]
          unfold skipN
          omega
        rw [hseek] at h1
        rw [htell, List.length_map] at h1
        exact h1
      generalize skipN X at' + seekN c key = j at *
      have hj : (X'.map tell)[j]? = some (tell X'[j]) := by rw [List.getElem?_map, List.getElem?_eq_getElem hal]; rfl
      refine ⟨X', X'[j], hX1, List.getElem?_eq_getElem hal, fun _ => ?_, fun h => by omega, fun r hr => ?_⟩
      · have h2 := seekN_stop (l := X.flatten) (k := key) (i := j) (by rw [htell, List.length_map]; exact hal) hseek
        have h3 : X.flatten[j]? = some (tell X'[j]) := by rw [htell]; exact hj
        rw [(List.getElem?_eq_some_iff.1 h3).2] at h2
        exact h2
      · obtain ⟨d, hd, hr⟩ := List.mem_flatten.1 hr
        obtain ⟨i, hi, rfl⟩ := List.mem_iff_getElem.1 hd
        rw [List.length_take] at hi
        rw [List.getElem_take] at hr
        obtain ⟨d1, d2⟩ := hch X'[i] (List.getElem_mem (by omega))
        have h4 := lastK_le (ok_rise d2).2 r hr
        have h5 := seekN_low X.flatten key i (by rw [htell, List.length_map]; omega) (by omega)
        have h6 : X.flatten[i]? = some (tell X'[i]) := by rw [htell, List.getElem?_map, List.getElem?_eq_getElem (by omega)]; rfl
        rw [(List.getElem?_eq_some_iff.1 h6).2] at h5
        have : (tell X'[i]).1 = lastK X'[i] := rfl
        omega

/-- D1: seek.Find's answer. -/
def seekP (t : List (List (List Row))) (key : Int) : Int × Int × Int :=
  if treeErr t = 0 then (if keyB key then (valueOf (flatL t) key, if flatL t ≠ [] ∧ key ≤ lastK (flatL t) then (t.length : Int) else 0, 0) else (0, 0, 3)) else (0, 0, treeErr t)

/-- The rows of a range of keys. -/
def rangeL (l : List Row) (a b : Int) : List Row := l.filter fun r => decide (a ≤ r.1) && decide (r.1 ≤ b)
/-- D1: seek.Range's answer. -/
def rangeP (t : List (List (List Row))) (a b : Int) : List Row × Int :=
  if treeErr t = 0 then (if a < 0 ∨ b < a ∨ 99 < b then ([], 3) else (rangeL (flatL t) a b, 0)) else ([], treeErr t)

theorem filter_none {α : Type} {p : α → Bool} {l : List α} (h : ∀ r ∈ l, p r = false) : l.filter p = [] := by
  rw [List.filter_eq_nil_iff]
  intro r hr
  rw [h r hr]; simp
theorem filter_all {α : Type} {p : α → Bool} {l : List α} (h : ∀ r ∈ l, p r = true) : l.filter p = l := List.filter_eq_self.2 h

/-- A range is a piece of right rows. -/
theorem rangeL_cut {m : Int} {l : List Row} (h : riseB m l = true) {a b : Int} (hab : a ≤ b) :
    seekN l a ≤ seekN l b + (if hasB l b then 1 else 0) ∧ seekN l b + (if hasB l b then 1 else 0) ≤ l.length ∧
      rangeL l a b = (l.drop (seekN l a)).take (seekN l b + (if hasB l b then 1 else 0) - seekN l a) := by
  have h1 := seekN_le l a
  have h2 := seekN_le l b
  have hmono : seekN l a ≤ seekN l b := by
    rcases Nat.lt_or_ge (seekN l b) (seekN l a) with hlt | hge
    · have x := seekN_low l a (seekN l b) (by omega) hlt
      have y := seekN_high h b (seekN l b) (by omega) (Nat.le_refl _)
      omega
    · exact hge
  obtain ⟨e, he1, he2, he3, he4⟩ : ∃ e : Nat, seekN l b + (if hasB l b then 1 else 0) = e ∧ seekN l b ≤ e ∧ e ≤ l.length ∧ (∀ (i : Nat) (hi : i < l.length), (i < e → l[i].1 ≤ b) ∧ (e ≤ i → b < l[i].1)) := by
    refine ⟨_, rfl, by omega, ?_, fun i hi => ?_⟩
    · cases hb : hasB l b with
      | false => simpa using h2
      | true =>
        obtain ⟨r, hr, _⟩ := valueOf_has h hb
        have := (List.getElem?_eq_some_iff.1 hr).1
        simp only [if_true]
        omega
    · cases hb : hasB l b with
      | false =>
        simp only [Bool.false_eq_true, if_false, Nat.add_zero]
        refine ⟨fun hlt => by have := seekN_low l b i hi hlt; omega, fun hge => ?_⟩
        have := seekN_high h b i hi hge
        rcases Int.lt_or_eq_of_le this with hlt | heq
        · exact hlt
        · exfalso
          have hi2 : seekN l b = i := by
            rcases Nat.lt_or_ge (seekN l b) i with hlt2 | hge2
            · have x := rise_lt h hlt2 hi
              have y := seekN_high h b (seekN l b) (by omega) (Nat.le_refl _)
              omega
            · omega
          unfold hasB at hb
          rw [hi2, List.getElem?_eq_getElem hi] at hb
          simp at hb
          omega
      | true =>
        obtain ⟨r, hr, hrb, _⟩ := valueOf_has h hb
        obtain ⟨hlt, hget⟩ := List.getElem?_eq_some_iff.1 hr
        simp only [if_true]
        refine ⟨fun hi2 => ?_, fun hi2 => ?_⟩
        · rcases Nat.lt_or_ge i (seekN l b) with h3 | h3
          · have := seekN_low l b i hi h3; omega
          · obtain rfl : i = seekN l b := by omega
            rw [hget]; omega
        · have := rise_lt h (i := seekN l b) (j := i) (by omega) hi
          rw [hget] at this
          omega
  rw [he1]
  refine ⟨by omega, he3, ?_⟩
  have hl : l = l.take (seekN l a) ++ ((l.drop (seekN l a)).take (e - seekN l a) ++ l.drop e) := by
    rw [show l.drop e = (l.drop (seekN l a)).drop (e - seekN l a) by rw [List.drop_drop]; congr 1; omega, List.take_append_drop, List.take_append_drop]
  unfold rangeL
  conv => lhs; rw [hl]
  rw [List.filter_append, List.filter_append, filter_none, filter_all, filter_none, List.nil_append, List.append_nil]
  · intro r hr
    obtain ⟨i, hi, rfl⟩ := List.mem_iff_getElem.1 hr
    rw [List.length_drop] at hi
    rw [List.getElem_drop]
    have := (he4 (e + i) (by omega)).2 (by omega)
    simp; omega
  · intro r hr
    obtain ⟨i, hi, rfl⟩ := List.mem_iff_getElem.1 hr
    rw [List.length_take, List.length_drop] at hi
    rw [List.getElem_take, List.getElem_drop]
    have x := (he4 (seekN l a + i) (by omega)).1 (by omega)
    have y := seekN_high h a (seekN l a + i) (by omega) (by omega)
    simp; omega
  · intro r hr
    obtain ⟨i, hi, rfl⟩ := List.mem_iff_getElem.1 hr
    rw [List.length_take] at hi
    rw [List.getElem_take]
    have := seekN_low l a i (by omega) (by omega)
    simp; omega

end Go.Pch
