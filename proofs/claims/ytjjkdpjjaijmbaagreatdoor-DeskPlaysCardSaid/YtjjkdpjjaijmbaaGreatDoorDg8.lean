/- Chapter 10: laws of what Put, Branch, Drop and Merge answer: plain words. Chapter 12: bytes: plain words, and how a pen's and a glass' cells read. -/
import Derived.Test.YtjjkdpjjaijmbaaGreatDoorDg7
import Derived.Test.YtjjkdpjjaijmbaaGreatDoorDg5
import Derived.Test.YtjjkdpjjaijmbaaGreatDoorDg3
import Derived.Lib.AppendStr
import Derived.Laws.IdiomStrings
section
namespace Go.Pch
open Go.RowKit Go.Proofs
theorem commitsFrom_ok : ∀ (l : List Commit) (m : Nat), (∀ n c, l[n]? = some c → commitErr ((m + n : Nat) : Int) c = 0) → commitsFrom m l = 0
  | [], _, _ => rfl
  | d :: l, m, h => by
    have h0 := h 0 d rfl
    simp only [Nat.add_zero] at h0
    rw [commitsFrom, if_neg (by simp [h0])]
    have := commitsFrom_ok l (m + 1) (fun n c hc => by have := h (n + 1) c hc; rwa [show m + (n + 1) = m + 1 + n by omega] at this)
    simpa using this
theorem commits_ok {l : List Commit} (h : DagOk l) : commitsErr l = 0 := by
  rw [commitsErr, if_neg (by have := h.1; omega)]
  exact commitsFrom_ok l 0 fun n c hc => by
    obtain ⟨a, b, d⟩ := h.2 n c hc
    simpa using commitErr_ok (r := c.1) (p := c.2) a b d
theorem dag_more {l : List Commit} (h : DagOk l) (hl : l.length < 14) {c : Commit} (h1 : rowsErr c.1 = 0) (h2 : c.2.length ≤ 2) (h3 : risePB l.length (-1) c.2 = true) : DagOk (l ++ [c]) := by
  refine ⟨by simp; omega, fun n x hx => ?_⟩
  by_cases hn : n < l.length
  · rw [List.getElem?_append_left hn] at hx; exact h.2 n x hx
  · have hlt := (List.getElem?_eq_some_iff.1 hx).1
    simp at hlt
    obtain rfl : n = l.length := by omega
    rw [List.getElem?_concat_length] at hx
    obtain rfl := Option.some.inj hx
    exact ⟨h1, h2, h3⟩
theorem repo_is {r : Repo} (h1 : commitsErr r.1 = 0) (h2 : r.2.length ≤ 4) (h3 : ∀ x ∈ r.2, nameB x.1 = true) (h4 : headsRise r.1.length [] r.2 = true) : repoErr r = 0 := by
  rw [repoErr, if_neg (by simp [h1]), if_neg (by omega), if_neg (by
    intro h
    obtain ⟨x, hx, hb⟩ := List.any_eq_true.1 h
    rw [h3 x hx] at hb
    cases hb), if_pos h4]
theorem repo_names {r : Repo} (h : repoErr r = 0) : ∀ x ∈ r.2, nameB x.1 = true := fun x hx => by
  cases hn : nameB x.1 with
  | true => rfl
  | false =>
    have := (repo_ok h).2.2.1
    rw [List.any_eq_true.2 ⟨x, hx, by rw [hn]; rfl⟩] at this
    cases this
theorem heads_uniq {n : Nat} {last : List UInt8} {hs : List Head} (h : headsRise n last hs = true) {x y : Head} (hx : x ∈ hs) (hy : y ∈ hs) (he : x.1.toList = y.1.toList) : x = y := by
  obtain ⟨i, hi, rfl⟩ := List.mem_iff_getElem.1 hx
  obtain ⟨j, hj, rfl⟩ := List.mem_iff_getElem.1 hy
  rcases Nat.lt_trichotomy i j with hij | rfl | hij
  · have := heads_lt h hij hj; rw [he, less_irrefl] at this; cases this
  · rfl
  · have := heads_lt h hij hi; rw [he, less_irrefl] at this; cases this
theorem headK_no : ∀ {hs : List Head} {s : ByteArray}, headK hs s = none → ∀ x ∈ hs, x.1.toList ≠ s.toList
  | y :: hs, s, h, x, hx => by
    rw [headK] at h
    split at h
    · cases h
    · rename_i hne
      rcases List.mem_cons.1 hx with rfl | hx
      · exact hne
      · exact headK_no (by cases hk : headK hs s with
          | none => rfl
          | some k => rw [hk] at h; cases h) x hx
theorem headP_mem {r : Repo} {s : ByteArray} {x : Head} (h : repoErr r = 0) (hx : x ∈ r.2) (he : x.1.toList = s.toList) : headP r s = (x.2, 0) := by
  have hr := (repo_ok h).2.2.2
  cases hh : hdHas r.2 s with
  | true => obtain ⟨y, hy, hP, hn⟩ := headP_is h hh; rw [hP, heads_uniq hr hx (List.mem_of_getElem? hy) (he.trans hn.symm)]
  | false =>
    exfalso
    have := headK_seek hr s
    rw [hh, if_neg (by simp)] at this
    exact headK_no this x hx he
theorem headP_not {r : Repo} {s : ByteArray} (h : repoErr r = 0) (hn : ∀ x ∈ r.2, x.1.toList ≠ s.toList) : headP r s = (0, 5) := by
  apply headP_none h
  cases hh : hdHas r.2 s with
  | false => rfl
  | true => obtain ⟨y, hy, _, he⟩ := headP_is h hh; exact absurd he (hn y (List.mem_of_getElem? hy))
theorem headP_same {r s : Repo} {name : ByteArray} (hr : repoErr r = 0) (hs : repoErr s = 0) (h : ∀ x : Head, x.1.toList = name.toList → (x ∈ r.2 ↔ x ∈ s.2)) : headP s name = headP r name := by
  by_cases hx : ∃ x ∈ r.2, x.1.toList = name.toList
  · obtain ⟨x, hx, he⟩ := hx
    rw [headP_mem hr hx he, headP_mem hs ((h x he).1 hx) he]
  · rw [headP_not hr (fun x hx' he => hx ⟨x, hx', he⟩), headP_not hs (fun x hx' he => hx ⟨x, (h x he).2 hx', he⟩)]
theorem heads_moved {n : Nat} {v : Int} (h0 : 0 ≤ v) (h1 : v < n) : ∀ {last : List UInt8} {hs : List Head} (k : Nat), headsRise n last hs = true → headsRise n last (moved hs k v) = true
  | _, [], k, _ => by rw [moved, List.set_nil]; rfl
  | last, x :: hs, 0, h => by
    rw [heads_cons] at h
    show headsRise n last ((x.1, v) :: hs) = true
    exact heads_cons.2 ⟨⟨h.1.1, h0, h1⟩, h.2⟩
  | last, x :: hs, k + 1, h => by
    rw [heads_cons] at h
    show headsRise n last (x :: moved hs k v) = true
    exact heads_cons.2 ⟨h.1, heads_moved h0 h1 k h.2⟩
theorem mem_moved {hs : List Head} {k : Nat} {x : Head} (h : hs[k]? = some x) {v : Int} {y : Head} (hy : y.1.toList ≠ x.1.toList) : y ∈ hs ↔ y ∈ moved hs k v := by
  rw [moved_is h]
  constructor
  · intro hm
    obtain ⟨i, hi, rfl⟩ := List.mem_iff_getElem.1 hm
    have : i ≠ k := by rintro rfl; rw [List.getElem?_eq_getElem hi] at h; exact hy (by rw [Option.some.inj h])
    exact List.mem_iff_getElem.2 ⟨i, by simpa using hi, by rw [List.getElem_set_ne (Ne.symm this)]⟩
  · intro hm
    rcases List.mem_or_eq_of_mem_set hm with hm | rfl
    · exact hm
    · exact absurd rfl hy
theorem names_moved {hs : List Head} {k : Nat} {x : Head} (h : hs[k]? = some x) {v : Int} (hn : ∀ y ∈ hs, nameB y.1 = true) : ∀ y ∈ moved hs k v, nameB y.1 = true := fun y hy => by
  rw [moved_is h] at hy
  rcases List.mem_or_eq_of_mem_set hy with hm | rfl
  · exact hn y hm
  · exact hn x (List.mem_of_getElem? h)
theorem heads_insert {n : Nat} {v : Int} (h0 : 0 ≤ v) (h1 : v < n) {s : ByteArray} : ∀ {last : List UInt8} {hs : List Head}, headsRise n last hs = true → Op.bytesLess last s.toList = true → hdHas hs s = false → headsRise n last (hs.take (hdN hs s) ++ (s, v) :: hs.drop (hdN hs s)) = true
  | last, [], _, hl, _ => by show headsRise n last [(s, v)] = true; exact heads_cons.2 ⟨⟨hl, h0, h1⟩, rfl⟩
  | last, x :: hs, h, hl, hn => by
    rw [heads_cons] at h
    cases hq : Op.bytesLess x.1.toList s.toList with
    | true =>
      have e1 : hdN (x :: hs) s = hdN hs s + 1 := by rw [hdN, hq, if_pos rfl]
      have e2 : hdHas hs s = false := by rw [hdHas, e1, List.getElem?_cons_succ] at hn; exact hn
      rw [e1]
      show headsRise n last (x :: (hs.take (hdN hs s) ++ (s, v) :: hs.drop (hdN hs s))) = true
      exact heads_cons.2 ⟨h.1, heads_insert h0 h1 h.2 hq e2⟩
    | false =>
      have e1 : hdN (x :: hs) s = 0 := by rw [hdN, hq, if_neg (by simp)]
      have hne : x.1.toList ≠ s.toList := by intro e; rw [hdHas, e1] at hn; simp [e] at hn
      rw [e1]
      show headsRise n last ((s, v) :: x :: hs) = true
      exact heads_cons.2 ⟨⟨hl, h0, h1⟩, heads_cons.2 ⟨⟨less_tri hq hne, h.1.2⟩, h.2⟩⟩
theorem heads_weaken {n : Nat} {a b : List UInt8} (hab : Op.bytesLess a b = true) : ∀ {hs : List Head}, headsRise n b hs = true → headsRise n a hs = true
  | [], _ => rfl
  | x :: hs, h => by rw [heads_cons] at h ⊢; exact ⟨⟨less_trans hab h.1.1, h.1.2⟩, h.2⟩
theorem heads_drop {n : Nat} : ∀ {last : List UInt8} {hs : List Head} (k : Nat), headsRise n last hs = true → headsRise n last (hs.take k ++ hs.drop (k + 1)) = true
  | _, [], k, _ => by simp; rfl
  | last, x :: hs, 0, h => by rw [heads_cons] at h; show headsRise n last hs = true; exact heads_weaken h.1.1 h.2
  | last, x :: hs, k + 1, h => by
    rw [heads_cons] at h
    show headsRise n last (x :: (hs.take k ++ hs.drop (k + 1))) = true
    exact heads_cons.2 ⟨h.1, heads_drop k h.2⟩
theorem heads_at {hs : List Head} {k : Nat} {x : Head} (h : hs[k]? = some x) : hs = hs.take k ++ x :: hs.drop (k + 1) := by
  obtain ⟨hk, rfl⟩ := List.getElem?_eq_some_iff.1 h
  rw [← List.drop_eq_getElem_cons hk, List.take_append_drop]
theorem rows_rise {l : List Row} (h : rowsErr l = 0) : riseB (-1) l = true ∧ l.length ≤ 40 := by
  unfold rowsErr at h
  split at h
  · cases h
  · split at h
    · exact ⟨by assumption, by omega⟩
    · cases h
theorem rows_right {l : List Row} (h : riseB (-1) l = true) (g : l.length ≤ 40) : rowsErr l = 0 := by rw [rowsErr, if_neg (by omega), if_pos h]
theorem patch_inv {l : List Row} {d : List Change} (h : (patchP l d).2 = 0) : rowsErr l = 0 ∧ fineC (-1) d = true ∧ matchB l d = true ∧ (setAll l d).length ≤ 40 ∧ patchP l d = (setAll l d, 0) := by
  unfold patchP at h ⊢
  split at h
  · rename_i h1
    split at h
    · rename_i h2
      split at h
      · rename_i h3
        split at h
        · cases h
        · rename_i h4
          exact ⟨h1, h2, h3, by omega, by rw [if_pos h1, if_pos h2, if_pos h3, if_neg h4]⟩
      · cases h
    · cases h
  · exact absurd h (by assumption)
theorem patch_right {l : List Row} {d : List Change} (h : (patchP l d).2 = 0) : rowsErr (patchP l d).1 = 0 := by
  obtain ⟨h1, h2, h3, h4, h5⟩ := patch_inv h
  rw [h5]
  exact rows_right (setAll_rise (last := -1) (by omega) (rows_rise h1).1 h2) h4
theorem merge_right {a b c : List Row} (h : (mergeP a b c).2.2 = 0) : rowsErr (mergeP a b c).1 = 0 := by
  unfold mergeP at h ⊢
  split at h
  · rename_i h1
    split at h
    · cases h
    · rename_i h2
      obtain ⟨_, hb, hc⟩ := errL_three h1
      rw [if_pos h1, if_neg h2]
      exact rows_right (mergeL_rise (rows_rise hb).1 (rows_rise hc).1) (by show (mergeL a b c).length ≤ 40; omega)
  · exact absurd h (by assumption)
theorem grown_ok {r : Repo} (h : repoErr r = 0) {k : Nat} {x : Head} (hx : r.2[k]? = some x) (hl : r.1.length ≠ 14) {rows : List Row} {ps : List Int} (h1 : rowsErr rows = 0) (h2 : ps.length ≤ 2) (h3 : risePB r.1.length (-1) ps = true) : repoErr (grown r k rows ps) = 0 := by
  have hk := repo_ok h
  have hd := dag_ok hk.1
  refine repo_is (commits_ok (dag_more hd (by have := hd.1; omega) h1 h2 h3)) (by rw [show (grown r k rows ps).2 = moved r.2 k r.1.length from rfl, moved_len]; exact hk.2.1) (names_moved hx (repo_names h)) ?_
  show headsRise (r.1 ++ [(rows, ps)]).length [] (moved r.2 k r.1.length) = true
  rw [List.length_append, List.length_singleton]
  exact heads_moved (by omega) (by omega) k (headsRise_more (by omega) hk.2.2.2)
theorem grown_other {r : Repo} (h : repoErr r = 0) {k : Nat} {x : Head} (hx : r.2[k]? = some x) {rows : List Row} {ps : List Int} (hg : repoErr (grown r k rows ps) = 0) {s : ByteArray} (hs : x.1.toList ≠ s.toList) : headP (grown r k rows ps) s = headP r s :=
  headP_same h hg fun y hy => mem_moved hx (by rw [hy]; exact fun e => hs e.symm)
theorem head_there {r : Repo} {s : ByteArray} (h : (headP r s).2 = 0) : repoErr r = 0 ∧ ∃ n : Nat, n < r.1.length ∧ headP r s = ((n : Int), 0) ∧ ∃ x, r.2[hdN r.2 s]? = some x ∧ x.1.toList = s.toList ∧ x.2 = n := by
  obtain ⟨he, n, hn, hP, x, hx, hxn, hh⟩ := headP_at h
  obtain ⟨y, hy, _, hys⟩ := headP_is he hh
  obtain rfl := Option.some.inj (hx.symm.trans hy)
  exact ⟨he, n, hn, hP, x, hx, hys, hxn⟩
def Right (r s : Repo) (one : ByteArray) : Prop :=
  repoErr r = 0 ∧ repoErr s = 0 ∧ (s.1 = r.1 ∨ ∃ c, s.1 = r.1 ++ [c]) ∧ ∀ name : ByteArray, name.toList ≠ one.toList → headP s name = headP r name
theorem rise_one {n : Nat} {L : Nat} (h : n < L) : risePB L (-1) [(n : Int)] = true := by rw [risePB_cons]; exact ⟨⟨by omega, by omega⟩, rfl⟩
theorem rise_two {a b L : Nat} (ha : a < L) (hb : b < L) (hab : a ≠ b) : risePB L (-1) [min (a : Int) b, max (a : Int) b] = true := by
  rw [risePB_cons, risePB_cons]; exact ⟨⟨by omega, by omega⟩, ⟨by omega, by omega⟩, rfl⟩
theorem put_inv {r s : Repo} {name : ByteArray} {d : List Change} (h : jPut r name d = (s, 0)) : (headP r name).2 = 0 ∧ ∀ n : Nat, headP r name = ((n : Int), 0) →
    fineC (-1) d = true ∧ d.length ≠ 0 ∧ r.1.length ≠ 14 ∧ (patchP (rowsN r.1 n) d).2 = 0 ∧ s = grown r (hdN r.2 name) (patchP (rowsN r.1 n) d).1 [(n : Int)] := by
  by_cases h0 : (headP r name).2 = 0
  · refine ⟨h0, fun n hn => ?_⟩
    rw [jPut_at hn, putN] at h
    split at h
    · rename_i h1
      split at h
      · cases h
      · split at h
        · cases h
        · split at h
          · exact ⟨h1, by assumption, by assumption, by assumption, (Prod.mk.inj h).1.symm⟩
          · exact absurd (Prod.mk.inj h).2 (by assumption)
    · cases h
  · rw [jPut_bad h0] at h
    exact absurd (Prod.mk.inj h).2 h0
theorem put_right {r s : Repo} {name : ByteArray} {d : List Change} (h : jPut r name d = (s, 0)) : Right r s name := by
  obtain ⟨h0, hI⟩ := put_inv h
  obtain ⟨he, n, hn, hP, x, hx, hxs, _⟩ := head_there h0
  obtain ⟨h1, h2, h3, h4, rfl⟩ := hI n hP
  have hg := grown_ok he hx h3 (patch_right h4) (ps := [(n : Int)]) (by simp) (rise_one hn)
  exact ⟨he, hg, .inr ⟨_, rfl⟩, fun s hs => grown_other he hx hg (by rw [hxs]; exact fun e => hs e.symm)⟩
theorem branch_right {r s : Repo} {name f : ByteArray} (h : jBranch r name f = (s, 0)) : Right r s name := by
  by_cases h0 : (headP r f).2 = 0
  · obtain ⟨he, n, hn, hP, x, hx, hxs, _⟩ := head_there h0
    rw [jBranch_at hP, branchN] at h
    split at h
    · rename_i h1
      split at h
      · cases h
      · rename_i h2
        split at h
        · cases h
        · rename_i h3
          obtain rfl := (Prod.mk.inj h).1.symm
          have hk := repo_ok he
          have hne : name.toList ≠ [] := fun e => by
            rw [nameB, Bool.and_eq_true, Bool.and_eq_true, decide_eq_true_eq] at h1
            have := h1.1.1
            rw [ByteArray.toList_eq] at e
            have e2 : name.size = 0 := by simpa using congrArg List.length e
            omega
          have hmem : ∀ y : Head, y.1.toList ≠ name.toList → (y ∈ r.2 ↔ y ∈ r.2.take (hdN r.2 name) ++ (name, (n : Int)) :: r.2.drop (hdN r.2 name)) := fun y hy => by
            have hyn : y ≠ (name, (n : Int)) := by rintro rfl; exact hy rfl
            have e : y ∈ r.2 ↔ y ∈ r.2.take (hdN r.2 name) ∨ y ∈ r.2.drop (hdN r.2 name) := by rw [← List.mem_append, List.take_append_drop]
            rw [e, List.mem_append, List.mem_cons]
            exact or_congr Iff.rfl ⟨.inr, fun h => h.resolve_left hyn⟩
          have hg : repoErr (r.1, r.2.take (hdN r.2 name) ++ (name, (n : Int)) :: r.2.drop (hdN r.2 name)) = 0 := by
            refine repo_is hk.1 ?_ ?_ (heads_insert (n := r.1.length) (by omega) (by omega) hk.2.2.2 (less_nil hne) (by simpa using h2))
            · have := hk.2.1
              simp only [List.length_append, List.length_cons, List.length_take, List.length_drop]
              omega
            · intro y hy
              by_cases hyn : y.1.toList = name.toList
              · have : y.1 = name := by
                  rcases List.mem_append.1 hy with hy | hy
                  · have := headK_seek hk.2.2.2 name
                    rw [if_neg h2] at this
                    exact absurd hyn (headK_no this y (List.mem_of_mem_take hy))
                  · rcases List.mem_cons.1 hy with rfl | hy
                    · rfl
                    · have := headK_seek hk.2.2.2 name
                      rw [if_neg h2] at this
                      exact absurd hyn (headK_no this y (List.mem_of_mem_drop hy))
                rw [this]; exact h1
              · exact repo_names he y ((hmem y hyn).2 hy)
          exact ⟨he, hg, .inl rfl, fun s hs => headP_same he hg fun y hy => hmem y (by rw [hy]; exact hs)⟩
    · cases h
  · rw [jBranch_bad h0] at h
    exact absurd (Prod.mk.inj h).2 h0
theorem drop_right {r s : Repo} {name : ByteArray} (h : jDrop r name = (s, 0)) : Right r s name := by
  rw [jDrop] at h
  split at h
  · rename_i h0
    split at h
    · cases h
    · obtain ⟨he, n, hn, hP, x, hx, hxs, _⟩ := head_there h0
      obtain rfl := (Prod.mk.inj h).1.symm
      have hk := repo_ok he
      have hmem : ∀ y : Head, y.1.toList ≠ name.toList → (y ∈ r.2 ↔ y ∈ r.2.take (hdN r.2 name) ++ r.2.drop (hdN r.2 name + 1)) := fun y hy => by
        have hyn : y ≠ x := by rintro rfl; exact hy hxs
        conv => lhs; rw [heads_at hx]
        simp [hyn]
      have hsub : ∀ y ∈ r.2.take (hdN r.2 name) ++ r.2.drop (hdN r.2 name + 1), y ∈ r.2 := fun y hy => by
        rcases List.mem_append.1 hy with hy | hy
        · exact List.mem_of_mem_take hy
        · exact List.mem_of_mem_drop hy
      have hg : repoErr (r.1, r.2.take (hdN r.2 name) ++ r.2.drop (hdN r.2 name + 1)) = 0 :=
        repo_is hk.1 (by have := hk.2.1; simp only [List.length_append, List.length_take, List.length_drop]; omega) (fun y hy => repo_names he y (hsub y hy)) (heads_drop _ hk.2.2.2)
      exact ⟨he, hg, .inl rfl, fun s hs => headP_same he hg fun y hy => hmem y (by rw [hy]; exact hs)⟩
  · exact absurd (Prod.mk.inj h).2 (by assumption)
theorem join_inv {r s : Repo} {name f : ByteArray} {c : List Int} (h : jJoin r name f = (s, c, 0)) : (headP r name).2 = 0 ∧ (headP r f).2 = 0 ∧ ∀ a b : Nat, headP r name = ((a : Int), 0) → headP r f = ((b : Int), 0) →
    ab r.1 a b = false ∧ c = [] ∧ ((ab r.1 b a = true ∧ s = (r.1, moved r.2 (hdN r.2 name) b)) ∨ (ab r.1 b a = false ∧ r.1.length ≠ 14 ∧ ∃ rows, rowsErr rows = 0 ∧ s = grown r (hdN r.2 name) rows [min (a : Int) b, max (a : Int) b])) := by
  by_cases h0 : (headP r name).2 = 0
  · by_cases h1 : (headP r f).2 = 0
    · refine ⟨h0, h1, fun a b ha hb => ?_⟩
      rw [jJoin_at ha hb, joinN] at h
      split at h
      · cases h
      · rename_i q1
        split at h
        · rename_i q2
          obtain ⟨e1, e2⟩ := Prod.mk.inj h
          exact ⟨by simpa using q1, (Prod.mk.inj e2).1.symm, .inl ⟨q2, e1.symm⟩⟩
        · rename_i q2
          split at h
          · cases h
          · rename_i q3
            split at h
            · rename_i q4
              split at h
              · obtain ⟨e1, e2⟩ := Prod.mk.inj h
                exact ⟨by simpa using q1, (Prod.mk.inj e2).1.symm, .inr ⟨by simpa using q2, q3, _, merge_right q4, e1.symm⟩⟩
              · cases h
            · exact absurd (Prod.mk.inj (Prod.mk.inj h).2).2 (by assumption)
    · obtain ⟨_, n, _, hP, _⟩ := head_there h0
      rw [jJoin_bad2 hP h1] at h
      exact absurd (Prod.mk.inj (Prod.mk.inj h).2).2 h1
  · rw [jJoin_bad h0] at h
    exact absurd (Prod.mk.inj (Prod.mk.inj h).2).2 h0
theorem moved_ok {r : Repo} (h : repoErr r = 0) {k : Nat} {x : Head} (hx : r.2[k]? = some x) {b : Nat} (hb : b < r.1.length) : repoErr (r.1, moved r.2 k b) = 0 := by
  have hk := repo_ok h
  exact repo_is hk.1 (by rw [moved_len]; exact hk.2.1) (names_moved hx (repo_names h)) (heads_moved (n := r.1.length) (by omega) (by omega) k hk.2.2.2)
theorem join_right {r s : Repo} {name f : ByteArray} {c : List Int} (h : jJoin r name f = (s, c, 0)) : Right r s name := by
  obtain ⟨h0, h1, hI⟩ := join_inv h
  obtain ⟨he, a, ha, hP, x, hx, hxs, _⟩ := head_there h0
  obtain ⟨_, b, hb, hQ, _⟩ := head_there h1
  obtain ⟨q1, _, ⟨q2, rfl⟩ | ⟨q2, q3, rows, q4, rfl⟩⟩ := hI a b hP hQ
  · have hg := moved_ok he hx hb
    exact ⟨he, hg, .inl rfl, fun s hs => headP_same he hg fun y hy => mem_moved hx (by rw [hy, hxs]; exact hs)⟩
  · have hab : a ≠ b := by rintro rfl; rw [ab_self (dag_ok (repo_ok he).1)] at q1; cases q1
    have hg := grown_ok he hx q3 q4 (ps := [min (a : Int) b, max (a : Int) b]) (by simp) (rise_two ha hb hab)
    exact ⟨he, hg, .inr ⟨_, rfl⟩, fun s hs => grown_other he hx hg (by rw [hxs]; exact fun e => hs e.symm)⟩
end Go.Pch
end

section
namespace Go.Pch
open Go.RowKit Go.Proofs
abbrev Bytes := List UInt8
def bl (l : Bytes) : ByteArray := ⟨l.toArray⟩
theorem bl_data (s : ByteArray) : bl s.data.toList = s := by cases s; simp [bl]
theorem bl_inj {a b : Bytes} (h : bl a = bl b) : a = b := by
  have := congrArg (fun s : ByteArray => s.data.toList) h
  simpa [bl] using this
theorem bl_size (l : Bytes) : (bl l).size = l.length := by simp [bl, ByteArray.size]
def tByte : Ty UInt8 := Ty.flat 1 (by decide) (fun c => [.int .u8 (c.toNat : Int)]) (fun _ => True) (by intro; rfl) (by intro a u hu; simp at hu; subst hu; rfl)
structure Step (X : Blk) (w w' : World) : Prop where
  os : w'.os = w.os
  tape : w'.tape = w.tape
  output : w'.output = w.output
  size : w.heap.size ≤ w'.heap.size
  block : ∀ k, k < w.heap.size → ¬ X k → w'.heap[k]? = w.heap[k]?
section
variable {X Y : Blk} {a b c : World}
theorem Step.refl (X : Blk) (a : World) : Step X a a := ⟨rfl, rfl, rfl, Nat.le_refl _, fun _ _ _ => rfl⟩
theorem Step.trans (h : Step X a b) (g : Step Y b c) (hY : ∀ k, k < a.heap.size → Y k → X k) : Step X a c :=
  ⟨g.os.trans h.os, g.tape.trans h.tape, g.output.trans h.output, Nat.le_trans h.size g.size, fun k hk hn => (g.block k (Nat.lt_of_lt_of_le hk h.size) fun hy => hn (hY k hk hy)).trans (h.block k hk hn)⟩
theorem Step.on (h : Step X a b) (g : Step X b c) : Step X a c := h.trans g fun _ _ h => h
theorem Step.of_below (h : Below a.heap.size a b) : Step X a b := ⟨h.os, h.tape, h.output, h.size, fun k hk _ => h.block k hk⟩
theorem Step.below {B : Nat} (h : Step X a b) (hX : ∀ k, X k → B ≤ k) (hB : B ≤ a.heap.size) : Below B a b :=
  ⟨h.os, h.tape, h.output, h.size, fun k hk => h.block k (by omega) fun hx => by have := hX k hx; omega⟩
theorem Step.setCell (p : Addr) (u : Value) (h : X p.block) : Step X a (a.setCell p u) :=
  ⟨rfl, rfl, rfl, by simp [World.setCell], fun k _ hn => Below.heap_setCell _ _ _ _ fun e => hn (e ▸ h)⟩
theorem Step.grown {row : Option Nat} (hg : a.grownBy b row) (hX : ∀ k, row = some k → X k) : Step X a b :=
  ⟨hg.os, hg.tape, hg.output, hg.size, fun k hk hn => hg.block k hk fun e => hn (hX k e.symm)⟩
theorem Step.mono (h : Step X a b) (hX : ∀ k, k < a.heap.size → X k → Y k) : Step Y a b := ⟨h.os, h.tape, h.output, h.size, fun k hk hn => h.block k hk fun hx => hn (hX k hk hx)⟩
theorem Step.cell (h : Step X a b) {p : Addr} (hp : p.block < a.heap.size) (hx : ¬ X p.block) : b.cell? p = a.cell? p := World.cell?_of_block (w := a) (h.block p.block hp hx)
end
theorem Sl.step {α : Type} {E : Ty α} {w w' : World} {S X : Blk} {v : Value} {l : List α} (h : Sl E w S v l) (hs : Step X w w') (hS : ∀ k, S k → ¬ X k) : Sl E w' S v l := h.keep fun k hk hlt => hs.block k hlt (hS k hk)
end Go.Pch
end
