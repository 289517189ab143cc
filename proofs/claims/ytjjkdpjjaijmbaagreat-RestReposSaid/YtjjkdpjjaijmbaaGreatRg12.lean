/- Chapter 10: laws of what Put, Branch, Drop and Merge answer: plain words. Chapter 11: acts, what they do: plain words and laws. -/
import Derived.Test.YtjjkdpjjaijmbaaGreatRg11
section
namespace Go.Pch
open Go.RowKit Go.Proofs

/-! ### Right repos -/
theorem commitsFrom_ok : ∀ (l : List Commit) (m : Nat), (∀ n c, l[n]? = some c → commitErr ((m + n : Nat) : Int) c = 0) → commitsFrom m l = 0
  | [], _, _ => rfl
  | d :: l, m, h => by
    have h0 := h 0 d rfl
    simp only [Nat.add_zero] at h0
    rw [commitsFrom, if_neg (by simp [h0])]
    have := commitsFrom_ok l (m + 1) (fun n c hc => by have := h (n + 1) c hc; rwa [show m + (n + 1) = m + 1 + n by omega] at this)
    simpa using this
theorem commits_ok {l : List Commit} (h : DagOk l) : commitsErr l = 0 := by
  rw [commitsErr, if_neg (by have := h.1; omega)]
  exact commitsFrom_ok l 0 fun n c hc => by
    obtain ⟨a, b, d⟩ := h.2 n c hc
    simpa using commitErr_ok (r := c.1) (p := c.2) a b d
theorem dag_more {l : List Commit} (h : DagOk l) (hl : l.length < 14) {c : Commit} (h1 : rowsErr c.1 = 0) (h2 : c.2.length ≤ 2) (h3 : risePB l.length (-1) c.2 = true) : DagOk (l ++ [c]) := by
  refine ⟨by simp; omega, fun n x hx => ?_⟩
  by_cases hn : n < l.length
  · rw [List.getElem?_append_left hn] at hx; exact h.2 n x hx
  · have hlt := (List.getElem?_eq_some_iff.1 hx).1
    simp at hlt
    obtain rfl : n = l.length := by omega
    rw [List.getElem?_concat_length] at hx
    obtain rfl := Option.some.inj hx
    exact ⟨h1, h2, h3⟩
theorem repo_is {r : Repo} (h1 : commitsErr r.1 = 0) (h2 : r.2.length ≤ 4) (h3 : ∀ x ∈ r.2, nameB x.1 = true) (h4 : headsRise r.1.length [] r.2 = true) : repoErr r = 0 := by
  rw [repoErr, if_neg (by simp [h1]), if_neg (by omega), if_neg (by
    intro h
    obtain ⟨x, hx, hb⟩ := List.any_eq_true.1 h
    rw [h3 x hx] at hb
    cases hb), if_pos h4]
theorem repo_names {r : Repo} (h : repoErr r = 0) : ∀ x ∈ r.2, nameB x.1 = true := fun x hx => by
  cases hn : nameB x.1 with
  | true => rfl
  | false =>
    have := (repo_ok h).2.2.1
    rw [List.any_eq_true.2 ⟨x, hx, by rw [hn]; rfl⟩] at this
    cases this
theorem heads_uniq {n : Nat} {last : List UInt8} {hs : List Head} (h : headsRise n last hs = true) {x y : Head} (hx : x ∈ hs) (hy : y ∈ hs) (he : x.1.toList = y.1.toList) : x = y := by
  obtain ⟨i, hi, rfl⟩ := List.mem_iff_getElem.1 hx
  obtain ⟨j, hj, rfl⟩ := List.mem_iff_getElem.1 hy
  rcases Nat.lt_trichotomy i j with hij | rfl | hij
  · have := heads_lt h hij hj; rw [he, less_irrefl] at this; cases this
  · rfl
  · have := heads_lt h hij hi; rw [he, less_irrefl] at this; cases this
theorem headK_no : ∀ {hs : List Head} {s : ByteArray}, headK hs s = none → ∀ x ∈ hs, x.1.toList ≠ s.toList
  | y :: hs, s, h, x, hx => by
    rw [headK] at h
    split at h
    · cases h
    · rename_i hne
      rcases List.mem_cons.1 hx with rfl | hx
      · exact hne
      · exact headK_no (by cases hk : headK hs s with
          | none => rfl
          | some k => rw [hk] at h; cases h) x hx
theorem headP_mem {r : Repo} {s : ByteArray} {x : Head} (h : repoErr r = 0) (hx : x ∈ r.2) (he : x.1.toList = s.toList) : headP r s = (x.2, 0) := by
  have hr := (repo_ok h).2.2.2
  cases hh : hdHas r.2 s with
  | true => obtain ⟨y, hy, hP, hn⟩ := headP_is h hh; rw [hP, heads_uniq hr hx (List.mem_of_getElem? hy) (he.trans hn.symm)]
  | false =>
    exfalso
    have := headK_seek hr s
    rw [hh, if_neg (by simp)] at this
    exact headK_no this x hx he
theorem headP_not {r : Repo} {s : ByteArray} (h : repoErr r = 0) (hn : ∀ x ∈ r.2, x.1.toList ≠ s.toList) : headP r s = (0, 5) := by
  apply headP_none h
  cases hh : hdHas r.2 s with
  | false => rfl
  | true => obtain ⟨y, hy, _, he⟩ := headP_is h hh; exact absurd he (hn y (List.mem_of_getElem? hy))
theorem headP_same {r s : Repo} {name : ByteArray} (hr : repoErr r = 0) (hs : repoErr s = 0) (h : ∀ x : Head, x.1.toList = name.toList → (x ∈ r.2 ↔ x ∈ s.2)) : headP s name = headP r name := by
  by_cases hx : ∃ x ∈ r.2, x.1.toList = name.toList
  · obtain ⟨x, hx, he⟩ := hx
    rw [headP_mem hr hx he, headP_mem hs ((h x he).1 hx) he]
  · rw [headP_not hr (fun x hx' he => hx ⟨x, hx', he⟩), headP_not hs (fun x hx' he => hx ⟨x, (h x he).2 hx', he⟩)]

/-! ### Heads, changed -/
theorem heads_moved {n : Nat} {v : Int} (h0 : 0 ≤ v) (h1 : v < n) : ∀ {last : List UInt8} {hs : List Head} (k : Nat), headsRise n last hs = true → headsRise n last (moved hs k v) = true
  | _, [], k, _ => by rw [moved, List.set_nil]; rfl
  | last, x :: hs, 0, h => by
    rw [heads_cons] at h
    show headsRise n last ((x.1, v) :: hs) = true
    exact heads_cons.2 ⟨⟨h.1.1, h0, h1⟩, h.2⟩
  | last, x :: hs, k + 1, h => by
    rw [heads_cons] at h
    show headsRise n last (x :: moved hs k v) = true
    exact heads_cons.2 ⟨h.1, heads_moved h0 h1 k h.2⟩
theorem mem_moved {hs : List Head} {k : Nat} {x : Head} (h : hs[k]? = some x) {v : Int} {y : Head} (hy : y.1.toList ≠ x.1.toList) : y ∈ hs ↔ y ∈ moved hs k v := by
  rw [moved_is h]
  constructor
  · intro hm
    obtain ⟨i, hi, rfl⟩ := List.mem_iff_getElem.1 hm
    have : i ≠ k := by rintro rfl; rw [List.getElem?_eq_getElem hi] at h; exact hy (by rw [Option.some.inj h])
    exact List.mem_iff_getElem.2 ⟨i, by simpa using hi, by rw [List.getElem_set_ne (Ne.symm this)]⟩
  · intro hm
    rcases List.mem_or_eq_of_mem_set hm with hm | rfl
    · exact hm
    · exact absurd rfl hy
theorem mem_moved_at {hs : List Head} {k : Nat} {x : Head} (h : hs[k]? = some x) (v : Int) : (x.1, v) ∈ moved hs k v := by
  rw [moved_is h]
  obtain ⟨hk, _⟩ := List.getElem?_eq_some_iff.1 h
  exact List.mem_iff_getElem.2 ⟨k, by simpa using hk, List.getElem_set_self _⟩
theorem names_moved {hs : List Head} {k : Nat} {x : Head} (h : hs[k]? = some x) {v : Int} (hn : ∀ y ∈ hs, nameB y.1 = true) : ∀ y ∈ moved hs k v, nameB y.1 = true := fun y hy => by
  rw [moved_is h] at hy
  rcases List.mem_or_eq_of_mem_set hy with hm | rfl
  · exact hn y hm
  · exact hn x (List.mem_of_getElem? h)
theorem heads_insert {n : Nat} {v : Int} (h0 : 0 ≤ v) (h1 : v < n) {s : ByteArray} : ∀ {last : List UInt8} {hs : List Head}, headsRise n last hs = true → Op.bytesLess last s.toList = true → hdHas hs s = false → headsRise n last (hs.take (hdN hs s) ++ (s, v) :: hs.drop (hdN hs s)) = true
  | last, [], _, hl, _ => by show headsRise n last [(s, v)] = true; exact heads_cons.2 ⟨⟨hl, h0, h1⟩, rfl⟩
  | last, x :: hs, h, hl, hn => by
    rw [heads_cons] at h
    cases hq : Op.bytesLess x.1.toList s.toList with
    | true =>
      have e1 : hdN (x :: hs) s = hdN hs s + 1 := by rw [hdN, hq, if_pos rfl]
      have e2 : hdHas hs s = false := by rw [hdHas, e1, List.getElem?_cons_succ] at hn; exact hn
      rw [e1]
      show headsRise n last (x :: (hs.take (hdN hs s) ++ (s, v) :: hs.drop (hdN hs s))) = true
      exact heads_cons.2 ⟨h.1, heads_insert h0 h1 h.2 hq e2⟩
    | false =>
      have e1 : hdN (x :: hs) s = 0 := by rw [hdN, hq, if_neg (by simp)]
      have hne : x.1.toList ≠ s.toList := by intro e; rw [hdHas, e1] at hn; simp [e] at hn
      rw [e1]
      show headsRise n last ((s, v) :: x :: hs) = true
      exact heads_cons.2 ⟨⟨hl, h0, h1⟩, heads_cons.2 ⟨⟨less_tri hq hne, h.1.2⟩, h.2⟩⟩
theorem heads_weaken {n : Nat} {a b : List UInt8} (hab : Op.bytesLess a b = true) : ∀ {hs : List Head}, headsRise n b hs = true → headsRise n a hs = true
  | [], _ => rfl
  | x :: hs, h => by rw [heads_cons] at h ⊢; exact ⟨⟨less_trans hab h.1.1, h.1.2⟩, h.2⟩
theorem heads_drop {n : Nat} : ∀ {last : List UInt8} {hs : List Head} (k : Nat), headsRise n last hs = true → headsRise n last (hs.take k ++ hs.drop (k + 1)) = true
  | _, [], k, _ => by simp; rfl
  | last, x :: hs, 0, h => by rw [heads_cons] at h; show headsRise n last hs = true; exact heads_weaken h.1.1 h.2
  | last, x :: hs, k + 1, h => by
    rw [heads_cons] at h
    show headsRise n last (x :: (hs.take k ++ hs.drop (k + 1))) = true
    exact heads_cons.2 ⟨h.1, heads_drop k h.2⟩
theorem heads_at {hs : List Head} {k : Nat} {x : Head} (h : hs[k]? = some x) : hs = hs.take k ++ x :: hs.drop (k + 1) := by
  obtain ⟨hk, rfl⟩ := List.getElem?_eq_some_iff.1 h
  rw [← List.drop_eq_getElem_cons hk, List.take_append_drop]

/-! ### Rows that come -/
theorem rows_rise {l : List Row} (h : rowsErr l = 0) : riseB (-1) l = true ∧ l.length ≤ 40 := by
  unfold rowsErr at h
  split at h
  · cases h
  · split at h
    · exact ⟨by assumption, by omega⟩
    · cases h
theorem rows_right {l : List Row} (h : riseB (-1) l = true) (g : l.length ≤ 40) : rowsErr l = 0 := by rw [rowsErr, if_neg (by omega), if_pos h]
theorem patch_inv {l : List Row} {d : List Change} (h : (patchP l d).2 = 0) : rowsErr l = 0 ∧ fineC (-1) d = true ∧ matchB l d = true ∧ (setAll l d).length ≤ 40 ∧ patchP l d = (setAll l d, 0) := by
  unfold patchP at h ⊢
  split at h
  · rename_i h1
    split at h
    · rename_i h2
      split at h
      · rename_i h3
        split at h
        · cases h
        · rename_i h4
          exact ⟨h1, h2, h3, by omega, by rw [if_pos h1, if_pos h2, if_pos h3, if_neg h4]⟩
      · cases h
    · cases h
  · exact absurd h (by assumption)
theorem patch_right {l : List Row} {d : List Change} (h : (patchP l d).2 = 0) : rowsErr (patchP l d).1 = 0 := by
  obtain ⟨h1, h2, h3, h4, h5⟩ := patch_inv h
  rw [h5]
  exact rows_right (setAll_rise (last := -1) (by omega) (rows_rise h1).1 h2) h4
theorem merge_right {a b c : List Row} (h : (mergeP a b c).2.2 = 0) : rowsErr (mergeP a b c).1 = 0 := by
  unfold mergeP at h ⊢
  split at h
  · rename_i h1
    split at h
    · cases h
    · rename_i h2
      obtain ⟨_, hb, hc⟩ := errL_three h1
      rw [if_pos h1, if_neg h2]
      exact rows_right (mergeL_rise (rows_rise hb).1 (rows_rise hc).1) (by show (mergeL a b c).length ≤ 40; omega)
  · exact absurd h (by assumption)
theorem fineC_swap : ∀ {last : Int} {d : List Change}, fineC last d = true → fineC last (d.map swapC) = true
  | _, [], _ => rfl
  | last, x :: d, h => by
    rw [fineC_cons] at h
    rw [List.map_cons, fineC_cons]
    exact ⟨⟨h.1.1, h.1.2.1, h.1.2.2.2.1, h.1.2.2.1, fun e => h.1.2.2.2.2 e.symm⟩, fineC_swap h.2⟩
theorem fineC_find {last : Int} : ∀ {d : List Change}, fineC last d = true → ∀ x ∈ d, d.find? (fun y => decide (y.1 = x.1)) = some x
  | y :: d, h, x, hx => by
    rw [fineC_cons] at h
    rw [List.find?_cons]
    rcases List.mem_cons.1 hx with rfl | hx
    · simp
    · have := (fineC_all h.2 x hx).1
      rw [show decide (y.1 = x.1) = false by simp; omega]
      exact fineC_find h.2 x hx
theorem find_swap (k : Int) : ∀ (d : List Change), (d.map swapC).find? (fun x => decide (x.1 = k)) = (d.find? (fun x => decide (x.1 = k))).map swapC
  | [] => rfl
  | x :: d => by
    rw [List.map_cons, List.find?_cons, List.find?_cons, find_swap k d]
    show (match decide (x.1 = k) with | true => some (swapC x) | false => _) = _
    cases decide (x.1 = k) <;> rfl
/-- What was put, put back, is as it was. -/
theorem patch_back {l : List Row} {d : List Change} (h : (patchP l d).2 = 0) : patchP (patchP l d).1 (d.map swapC) = (l, 0) := by
  obtain ⟨h1, h2, h3, h4, h5⟩ := patch_inv h
  have hr := (rows_rise h1).1
  have hs := setAll_rise (last := -1) (by omega) hr h2
  have hm : ∀ x ∈ d, valueOf l x.1 = x.2.1 := fun x hx => by simpa using List.all_eq_true.1 h3 x hx
  have hback : setAll (setAll l d) (d.map swapC) = l := by
    refine rows_ext (last := -1) (setAll_rise (last := -1) (by omega) hs (fineC_swap h2)) hr fun k _ _ => ?_
    rw [setAll_value (last := -1) (by omega) hs (fineC_swap h2), find_swap]
    cases hf : d.find? (fun x => decide (x.1 = k)) with
    | none =>
      show valueOf (setAll l d) k = _
      rw [setAll_value (last := -1) (by omega) hr h2, hf]
    | some x =>
      have hk : x.1 = k := by simpa using List.find?_some hf
      show x.2.1 = _
      rw [← hm x (List.mem_of_find?_eq_some hf), hk]
  rw [h5]
  show patchP (setAll l d) (d.map swapC) = _
  rw [patchP, if_pos (rows_right hs h4), if_pos (fineC_swap h2), if_pos, if_neg, hback]
  · rw [hback]; have := (rows_rise h1).2; omega
  · rw [matchB, List.all_eq_true]
    intro y hy
    obtain ⟨x, hx, rfl⟩ := List.mem_map.1 hy
    simp only [decide_eq_true_eq]
    show valueOf (setAll l d) x.1 = x.2.2
    rw [setAll_value (last := -1) (by omega) hr h2, fineC_find h2 x hx]

/-! ### What comes is right -/
theorem grown_ok {r : Repo} (h : repoErr r = 0) {k : Nat} {x : Head} (hx : r.2[k]? = some x) (hl : r.1.length ≠ 14) {rows : List Row} {ps : List Int} (h1 : rowsErr rows = 0) (h2 : ps.length ≤ 2) (h3 : risePB r.1.length (-1) ps = true) : repoErr (grown r k rows ps) = 0 := by
  have hk := repo_ok h
  have hd := dag_ok hk.1
  refine repo_is (commits_ok (dag_more hd (by have := hd.1; omega) h1 h2 h3)) (by rw [show (grown r k rows ps).2 = moved r.2 k r.1.length from rfl, moved_len]; exact hk.2.1) (names_moved hx (repo_names h)) ?_
  show headsRise (r.1 ++ [(rows, ps)]).length [] (moved r.2 k r.1.length) = true
  rw [List.length_append, List.length_singleton]
  exact heads_moved (by omega) (by omega) k (headsRise_more (by omega) hk.2.2.2)
theorem grown_at {r : Repo} {k : Nat} {x : Head} (hx : r.2[k]? = some x) {rows : List Row} {ps : List Int} (hg : repoErr (grown r k rows ps) = 0) {s : ByteArray} (hs : x.1.toList = s.toList) : headP (grown r k rows ps) s = ((r.1.length : Int), 0) :=
  headP_mem hg (mem_moved_at hx _) hs
theorem grown_other {r : Repo} (h : repoErr r = 0) {k : Nat} {x : Head} (hx : r.2[k]? = some x) {rows : List Row} {ps : List Int} (hg : repoErr (grown r k rows ps) = 0) {s : ByteArray} (hs : x.1.toList ≠ s.toList) : headP (grown r k rows ps) s = headP r s :=
  headP_same h hg fun y hy => mem_moved hx (by rw [hy]; exact fun e => hs e.symm)
/-- A head that is there. -/
theorem head_there {r : Repo} {s : ByteArray} (h : (headP r s).2 = 0) : repoErr r = 0 ∧ ∃ n : Nat, n < r.1.length ∧ headP r s = ((n : Int), 0) ∧ ∃ x, r.2[hdN r.2 s]? = some x ∧ x.1.toList = s.toList ∧ x.2 = n := by
  obtain ⟨he, n, hn, hP, x, hx, hxn, hh⟩ := headP_at h
  obtain ⟨y, hy, _, hys⟩ := headP_is he hh
  obtain rfl := Option.some.inj (hx.symm.trans hy)
  exact ⟨he, n, hn, hP, x, hx, hys, hxn⟩
/-- What an act leaves right: commits, and other heads. -/
def Right (r s : Repo) (one : ByteArray) : Prop :=
  repoErr r = 0 ∧ repoErr s = 0 ∧ (s.1 = r.1 ∨ ∃ c, s.1 = r.1 ++ [c]) ∧ ∀ name : ByteArray, name.toList ≠ one.toList → headP s name = headP r name
theorem rise_one {n : Nat} {L : Nat} (h : n < L) : risePB L (-1) [(n : Int)] = true := by rw [risePB_cons]; exact ⟨⟨by omega, by omega⟩, rfl⟩
theorem rise_two {a b L : Nat} (ha : a < L) (hb : b < L) (hab : a ≠ b) : risePB L (-1) [min (a : Int) b, max (a : Int) b] = true := by
  rw [risePB_cons, risePB_cons]; exact ⟨⟨by omega, by omega⟩, ⟨by omega, by omega⟩, rfl⟩
theorem put_inv {r s : Repo} {name : ByteArray} {d : List Change} (h : jPut r name d = (s, 0)) : (headP r name).2 = 0 ∧ ∀ n : Nat, headP r name = ((n : Int), 0) →
    fineC (-1) d = true ∧ d.length ≠ 0 ∧ r.1.length ≠ 14 ∧ (patchP (rowsN r.1 n) d).2 = 0 ∧ s = grown r (hdN r.2 name) (patchP (rowsN r.1 n) d).1 [(n : Int)] := by
  by_cases h0 : (headP r name).2 = 0
  · refine ⟨h0, fun n hn => ?_⟩
    rw [jPut_at hn, putN] at h
    split at h
    · rename_i h1
      split at h
      · cases h
      · split at h
        · cases h
        · split at h
          · exact ⟨h1, by assumption, by assumption, by assumption, (Prod.mk.inj h).1.symm⟩
          · exact absurd (Prod.mk.inj h).2 (by assumption)
    · cases h
  · rw [jPut_bad h0] at h
    exact absurd (Prod.mk.inj h).2 h0
theorem put_right {r s : Repo} {name : ByteArray} {d : List Change} (h : jPut r name d = (s, 0)) : Right r s name := by
  obtain ⟨h0, hI⟩ := put_inv h
  obtain ⟨he, n, hn, hP, x, hx, hxs, _⟩ := head_there h0
  obtain ⟨h1, h2, h3, h4, rfl⟩ := hI n hP
  have hg := grown_ok he hx h3 (patch_right h4) (ps := [(n : Int)]) (by simp) (rise_one hn)
  exact ⟨he, hg, .inr ⟨_, rfl⟩, fun s hs => grown_other he hx hg (by rw [hxs]; exact fun e => hs e.symm)⟩
theorem branch_right {r s : Repo} {name f : ByteArray} (h : jBranch r name f = (s, 0)) : Right r s name := by
  by_cases h0 : (headP r f).2 = 0
  · obtain ⟨he, n, hn, hP, x, hx, hxs, _⟩ := head_there h0
    rw [jBranch_at hP, branchN] at h
    split at h
    · rename_i h1
      split at h
      · cases h
      · rename_i h2
        split at h
        · cases h
        · rename_i h3
          obtain rfl := (Prod.mk.inj h).1.symm
          have hk := repo_ok he
          have hne : name.toList ≠ [] := fun e => by
            rw [nameB, Bool.and_eq_true, Bool.and_eq_true, decide_eq_true_eq] at h1
            have := h1.1.1
            rw [ByteArray.toList_eq] at e
            have e2 : name.size = 0 := by simpa using congrArg List.length e
            omega
          have hmem : ∀ y : Head, y.1.toList ≠ name.toList → (y ∈ r.2 ↔ y ∈ r.2.take (hdN r.2 name) ++ (name, (n : Int)) :: r.2.drop (hdN r.2 name)) := fun y hy => by
            have hyn : y ≠ (name, (n : Int)) := by rintro rfl; exact hy rfl
            have e : y ∈ r.2 ↔ y ∈ r.2.take (hdN r.2 name) ∨ y ∈ r.2.drop (hdN r.2 name) := by rw [← List.mem_append, List.take_append_drop]
            rw [e, List.mem_append, List.mem_cons]
            exact or_congr Iff.rfl ⟨.inr, fun h => h.resolve_left hyn⟩
          have hg : repoErr (r.1, r.2.take (hdN r.2 name) ++ (name, (n : Int)) :: r.2.drop (hdN r.2 name)) = 0 := by
            refine repo_is hk.1 ?_ ?_ (heads_insert (n := r.1.length) (by omega) (by omega) hk.2.2.2 (less_nil hne) (by simpa using h2))
            · have := hk.2.1
              simp only [List.length_append, List.length_cons, List.length_take, List.length_drop]
              omega
            · intro y hy
              by_cases hyn : y.1.toList = name.toList
              · have : y.1 = name := by
                  rcases List.mem_append.1 hy with hy | hy
                  · have := headK_seek hk.2.2.2 name
                    rw [if_neg h2] at this
                    exact absurd hyn (headK_no this y (List.mem_of_mem_take hy))
                  · rcases List.mem_cons.1 hy with rfl | hy
                    · rfl
                    · have := headK_seek hk.2.2.2 name
                      rw [if_neg h2] at this
                      exact absurd hyn (headK_no this y (List.mem_of_mem_drop hy))
                rw [this]; exact h1
              · exact repo_names he y ((hmem y hyn).2 hy)
          exact ⟨he, hg, .inl rfl, fun s hs => headP_same he hg fun y hy => hmem y (by rw [hy]; exact hs)⟩
    · cases h
  · rw [jBranch_bad h0] at h
    exact absurd (Prod.mk.inj h).2 h0
theorem drop_right {r s : Repo} {name : ByteArray} (h : jDrop r name = (s, 0)) : Right r s name := by
  rw [jDrop] at h
  split at h
  · rename_i h0
    split at h
    · cases h
    · obtain ⟨he, n, hn, hP, x, hx, hxs, _⟩ := head_there h0
      obtain rfl := (Prod.mk.inj h).1.symm
      have hk := repo_ok he
      have hmem : ∀ y : Head, y.1.toList ≠ name.toList → (y ∈ r.2 ↔ y ∈ r.2.take (hdN r.2 name) ++ r.2.drop (hdN r.2 name + 1)) := fun y hy => by
        have hyn : y ≠ x := by rintro rfl; exact hy hxs
        conv => lhs; rw [heads_at hx]
        simp [hyn]
      have hsub : ∀ y ∈ r.2.take (hdN r.2 name) ++ r.2.drop (hdN r.2 name + 1), y ∈ r.2 := fun y hy => by
        rcases List.mem_append.1 hy with hy | hy
        · exact List.mem_of_mem_take hy
        · exact List.mem_of_mem_drop hy
      have hg : repoErr (r.1, r.2.take (hdN r.2 name) ++ r.2.drop (hdN r.2 name + 1)) = 0 :=
        repo_is hk.1 (by have := hk.2.1; simp only [List.length_append, List.length_take, List.length_drop]; omega) (fun y hy => repo_names he y (hsub y hy)) (heads_drop _ hk.2.2.2)
      exact ⟨he, hg, .inl rfl, fun s hs => headP_same he hg fun y hy => hmem y (by rw [hy]; exact hs)⟩
  · exact absurd (Prod.mk.inj h).2 (by assumption)
theorem join_inv {r s : Repo} {name f : ByteArray} {c : List Int} (h : jJoin r name f = (s, c, 0)) : (headP r name).2 = 0 ∧ (headP r f).2 = 0 ∧ ∀ a b : Nat, headP r name = ((a : Int), 0) → headP r f = ((b : Int), 0) →
    ab r.1 a b = false ∧ c = [] ∧ ((ab r.1 b a = true ∧ s = (r.1, moved r.2 (hdN r.2 name) b)) ∨ (ab r.1 b a = false ∧ r.1.length ≠ 14 ∧ ∃ rows, rowsErr rows = 0 ∧ s = grown r (hdN r.2 name) rows [min (a : Int) b, max (a : Int) b])) := by
  by_cases h0 : (headP r name).2 = 0
  · by_cases h1 : (headP r f).2 = 0
    · refine ⟨h0, h1, fun a b ha hb => ?_⟩
      rw [jJoin_at ha hb, joinN] at h
      split at h
      · cases h
      · rename_i q1
        split at h
        · rename_i q2
          obtain ⟨e1, e2⟩ := Prod.mk.inj h
          exact ⟨by simpa using q1, (Prod.mk.inj e2).1.symm, .inl ⟨q2, e1.symm⟩⟩
        · rename_i q2
          split at h
          · cases h
          · rename_i q3
            split at h
            · rename_i q4
              split at h
              · obtain ⟨e1, e2⟩ := Prod.mk.inj h
                exact ⟨by simpa using q1, (Prod.mk.inj e2).1.symm, .inr ⟨by simpa using q2, q3, _, merge_right q4, e1.symm⟩⟩
              · cases h
            · exact absurd (Prod.mk.inj (Prod.mk.inj h).2).2 (by assumption)
    · obtain ⟨_, n, _, hP, _⟩ := head_there h0
      rw [jJoin_bad2 hP h1] at h
      exact absurd (Prod.mk.inj (Prod.mk.inj h).2).2 h1
  · rw [jJoin_bad h0] at h
    exact absurd (Prod.mk.inj (Prod.mk.inj h).2).2 h0
theorem moved_ok {r : Repo} (h : repoErr r = 0) {k : Nat} {x : Head} (hx : r.2[k]? = some x) {b : Nat} (hb : b < r.1.length) : repoErr (r.1, moved r.2 k b) = 0 := by
  have hk := repo_ok h
  exact repo_is hk.1 (by rw [moved_len]; exact hk.2.1) (names_moved hx (repo_names h)) (heads_moved (n := r.1.length) (by omega) (by omega) k hk.2.2.2)
theorem join_right {r s : Repo} {name f : ByteArray} {c : List Int} (h : jJoin r name f = (s, c, 0)) : Right r s name := by
  obtain ⟨h0, h1, hI⟩ := join_inv h
  obtain ⟨he, a, ha, hP, x, hx, hxs, _⟩ := head_there h0
  obtain ⟨_, b, hb, hQ, _⟩ := head_there h1
  obtain ⟨q1, _, ⟨q2, rfl⟩ | ⟨q2, q3, rows, q4, rfl⟩⟩ := hI a b hP hQ
  · have hg := moved_ok he hx hb
    exact ⟨he, hg, .inl rfl, fun s hs => headP_same he hg fun y hy => mem_moved hx (by rw [hy, hxs]; exact hs)⟩
  · have hab : a ≠ b := by rintro rfl; rw [ab_self (dag_ok (repo_ok he).1)] at q1; cases q1
    have hg := grown_ok he hx q3 q4 (ps := [min (a : Int) b, max (a : Int) b]) (by simp) (rise_two ha hb hab)
    exact ⟨he, hg, .inr ⟨_, rfl⟩, fun s hs => grown_other he hx hg (by rw [hxs]; exact fun e => hs e.symm)⟩

/-! ### Merged: who is above -/
theorem pars_more {l : List Commit} {c : Commit} {n : Nat} (hn : n < l.length) : pars (l ++ [c]) n = pars l n := by rw [pars, pars, List.getElem?_append_left hn]
theorem ab_more {l : List Commit} {c : Commit} (h : DagOk l) (h' : DagOk (l ++ [c])) : ∀ (n k : Nat), n < l.length → ab (l ++ [c]) n k = ab l n k := by
  intro n
  induction n using Nat.strongRecOn with
  | _ n ih =>
    intro k hn
    rw [ab_eq h, ab_eq h', pars_more hn]
    congr 1
    rw [Bool.eq_iff_iff, List.any_eq_true, List.any_eq_true]
    constructor
    · rintro ⟨p, hp, hk⟩
      have := pars_lt h hp
      exact ⟨p, hp, by rw [← ih p.toNat (by omega) k (by omega)]; exact hk⟩
    · rintro ⟨p, hp, hk⟩
      have := pars_lt h hp
      exact ⟨p, hp, by rw [ih p.toNat (by omega) k (by omega)]; exact hk⟩
theorem ab_new {l : List Commit} {c : Commit} (h' : DagOk (l ++ [c])) {p : Int} (hp : p ∈ c.2) : ab (l ++ [c]) l.length p.toNat = true := by
  rw [ab_eq h', Bool.or_eq_true, List.any_eq_true]
  exact .inr ⟨p, by rw [pars, List.getElem?_concat_length]; exact hp, ab_self h' _⟩
/-- What was merged is in. -/
theorem join_in {r s : Repo} {name f : ByteArray} {c : List Int} (h : jJoin r name f = (s, c, 0)) : ∃ a b n : Nat, headP r name = ((a : Int), 0) ∧ headP r f = ((b : Int), 0) ∧ a < r.1.length ∧ b < r.1.length ∧
    repoErr s = 0 ∧ headP s name = ((n : Int), 0) ∧ headP s f = ((b : Int), 0) ∧ n < s.1.length ∧ r.1.length ≤ s.1.length ∧ ab s.1 n a = true ∧ ab s.1 n b = true ∧ jJoin s name f = (noRepo, [], 9) := by
  have hR := join_right h
  obtain ⟨h0, h1, hI⟩ := join_inv h
  obtain ⟨he, a, ha, hP, x, hx, hxs, hxa⟩ := head_there h0
  obtain ⟨_, b, hb, hQ, y, hy, hys, hyb⟩ := head_there h1
  obtain ⟨q1, _, hC⟩ := hI a b hP hQ
  have hd := dag_ok (repo_ok he).1
  have hne : f.toList ≠ name.toList := fun e => by
    have hq := (headP_mem he (List.mem_of_getElem? hy) (hys.trans e)).symm.trans hP
    have : y.2 = (a : Int) := (Prod.mk.inj hq).1
    have hab : a = b := by omega
    subst hab
    rw [ab_self hd] at q1; cases q1
  have hf : headP s f = ((b : Int), 0) := (hR.2.2.2 f hne).trans hQ
  have key : ∀ n : Nat, headP s name = ((n : Int), 0) → ab s.1 n b = true → jJoin s name f = (noRepo, [], 9) := fun n hn hb => by rw [jJoin_at hn hf, joinN, if_pos hb]
  rcases hC with ⟨q2, rfl⟩ | ⟨q2, q3, rows, q4, rfl⟩
  · have hn : headP (r.1, moved r.2 (hdN r.2 name) b) name = ((b : Int), 0) := headP_mem hR.2.1 (mem_moved_at hx _) hxs
    exact ⟨a, b, b, hP, hQ, ha, hb, hR.2.1, hn, hf, hb, Nat.le_refl _, q2, ab_self hd b, key b hn (ab_self hd b)⟩
  · have hn := grown_at hx hR.2.1 hxs
    have hd' := dag_ok (repo_ok hR.2.1).1
    have e1 : ab (grown r (hdN r.2 name) rows [min (a : Int) b, max (a : Int) b]).1 r.1.length a = true := by
      have := ab_new (l := r.1) (c := (rows, [min (a : Int) b, max (a : Int) b])) hd' (p := (a : Int)) (by
        simp only [List.mem_cons, List.not_mem_nil, or_false]; omega)
      rw [Int.toNat_natCast] at this
      exact this
    have e2 : ab (grown r (hdN r.2 name) rows [min (a : Int) b, max (a : Int) b]).1 r.1.length b = true := by
      have := ab_new (l := r.1) (c := (rows, [min (a : Int) b, max (a : Int) b])) hd' (p := (b : Int)) (by
        simp only [List.mem_cons, List.not_mem_nil, or_false]; omega)
      rw [Int.toNat_natCast] at this
      exact this
    have hL : (grown r (hdN r.2 name) rows [min (a : Int) b, max (a : Int) b]).1.length = r.1.length + 1 := by simp [grown]
    exact ⟨a, b, r.1.length, hP, hQ, ha, hb, hR.2.1, hn, hf, by omega, by omega, e1, e2, key _ hn e2⟩

/-! ### Put, and put back -/
theorem put_back {r s : Repo} {name : ByteArray} {d : List Change} (h : jPut r name d = (s, 0)) {n : Nat} (hn : headP r name = ((n : Int), 0)) :
    backP d = (d.map swapC, 0) ∧ (((jPut s name (d.map swapC)).2 = 2) ∨ ∃ t, jPut s name (d.map swapC) = (t, 0) ∧ repoErr t = 0 ∧ headP t name = (((r.1.length + 1 : Nat) : Int), 0) ∧ t.1.length = r.1.length + 2 ∧ n < r.1.length ∧
      ∃ ps qs : List Int, t.1[r.1.length + 1]? = some (rowsN r.1 n, ps) ∧ t.1[n]? = some (rowsN r.1 n, qs)) := by
  have hR := put_right h
  obtain ⟨h0, hI⟩ := put_inv h
  obtain ⟨he, n', hn', hP, x, hx, hxs, _⟩ := head_there h0
  obtain rfl : n' = n := by
    have := (Prod.mk.inj (hP.symm.trans hn)).1
    omega
  obtain ⟨h1, h2, h3, h4, rfl⟩ := hI n' hP
  refine ⟨by rw [backP, if_pos h1], ?_⟩
  have hg := hR.2.1
  have hm := grown_at hx hg hxs
  rw [jPut_at hm, putN, if_pos (fineC_swap h1), if_neg (by simpa using h2)]
  have hrows : rowsN (grown r (hdN r.2 name) (patchP (rowsN r.1 n') d).1 [(n' : Int)]).1 r.1.length = (patchP (rowsN r.1 n') d).1 := by
    rw [rowsN, show (grown r (hdN r.2 name) (patchP (rowsN r.1 n') d).1 [(n' : Int)]).1 = r.1 ++ [((patchP (rowsN r.1 n') d).1, [(n' : Int)])] from rfl, List.getElem?_concat_length]; rfl
  have hb := patch_back h4
  have hL : (grown r (hdN r.2 name) (patchP (rowsN r.1 n') d).1 [(n' : Int)]).1.length = r.1.length + 1 := by simp [grown]
  by_cases h14 : r.1.length + 1 = 14
  · left
    rw [hL, if_pos h14]
  · right
    rw [hL, if_neg h14, hrows, hb, if_pos rfl]
    have hm0 : (headP (grown r (hdN r.2 name) (patchP (rowsN r.1 n') d).1 [(n' : Int)]) name).2 = 0 := by rw [hm]
    obtain ⟨_, m, _, _, y, hy, hys, _⟩ := head_there hm0
    have hrr : rowsErr (rowsN r.1 n') = 0 := (patch_inv h4).1
    have hg2 := grown_ok hg hy (by rw [hL]; exact h14) hrr (ps := [((r.1.length : Nat) : Int)]) (by simp) (rise_one (by rw [hL]; omega))
    refine ⟨_, rfl, hg2, ?_, ?_, hn', [((r.1.length : Nat) : Int)], pars r.1 n', ?_, ?_⟩
    · have := grown_at hy hg2 hys
      rw [hL] at this
      exact this
    · simp [grown]
    · show ((r.1 ++ [_]) ++ [_])[r.1.length + 1]? = _
      rw [List.getElem?_append_right (by simp)]
      simp
    · show ((r.1 ++ [_]) ++ [_])[n']? = _
      rw [List.getElem?_append_left (by simp; omega), List.getElem?_append_left hn', rowsN, pars, List.getElem?_eq_getElem hn']
      rfl

end Go.Pch
end

section
namespace Go.Pch
open Go.RowKit Go.Proofs

/-- An act: its kind, its two names, its changes. -/
abbrev Act := Int × ByteArray × ByteArray × List Change
/-- K1: Do's answer. -/
def doP (r : Repo) (x : Act) : Repo × Int :=
  if x.1 = 1 then jPut r x.2.1 x.2.2.2 else if x.1 = 2 then jBranch r x.2.1 x.2.2.1 else if x.1 = 3 then ((jJoin r x.2.1 x.2.2.1).1, (jJoin r x.2.1 x.2.2.1).2.2) else if x.1 = 4 then jDrop r x.2.1 else (noRepo, 8)
/-- An act that has an error changes nothing. -/
def stepP (r : Repo) (x : Act) : Repo := if (doP r x).2 = 0 then (doP r x).1 else r
/-- I1: Begin's answer. -/
def beginR : Repo := ([([], [])], [((ByteArray.mk #[109, 97, 105, 110]), 0)])
/-- K3: acts, done one behind the other. -/
def doneP (l : List Act) : Repo := l.foldl stepP beginR
theorem doneP_next {l : List Act} {k : Nat} {x : Act} (h : l[k]? = some x) : doneP (l.take (k + 1)) = stepP (doneP (l.take k)) x := by
  rw [List.take_add_one, h, doneP, List.foldl_append]; rfl
theorem doneP_snoc (l : List Act) (x : Act) : doneP (l ++ [x]) = stepP (doneP l) x := by rw [doneP, List.foldl_append]; rfl
theorem do_right {r s : Repo} {x : Act} (h : doP r x = (s, 0)) : Right r s x.2.1 := by
  rw [doP] at h
  split at h
  · exact put_right h
  · split at h
    · exact branch_right h
    · split at h
      · obtain ⟨h1, h2⟩ := Prod.mk.inj h
        exact join_right (c := (jJoin r x.2.1 x.2.2.1).2.1) (by rw [← h1, ← h2])
      · split at h
        · exact drop_right h
        · cases h
theorem step_right {r : Repo} {x : Act} (h : repoErr r = 0) : repoErr (stepP r x) = 0 := by
  rw [stepP]
  split
  · rename_i h0
    exact (do_right (r := r) (s := (doP r x).1) (x := x) (by rw [← h0])).2.1
  · exact h
theorem fold_right : ∀ (l : List Act) (r : Repo), repoErr r = 0 → repoErr (l.foldl stepP r) = 0
  | [], _, h => h
  | _ :: l, _, h => fold_right l _ (step_right h)
theorem begin_right : repoErr beginR = 0 := by
  unfold beginR repoErr
  decide +kernel
theorem done_right (l : List Act) : repoErr (doneP l) = 0 := fold_right l _ begin_right

end Go.Pch
end
