/- The walk of a line, whatever its words. (gen_dku.py) A range over a function that hands out texts and keeps what is left in a cell of its own; the body may write blocks that are there. No program is named here. The walk of strings.Lines. -/
import Derived.Test.YtjjkdpjjaijmbaaGreatDoorDg46
import Derived.Test.YtjjkdpjjaijmbaaGreatDoorDg32
import Derived.RegionIn
section
namespace Go.Pch
open Go.RowKit Go.Proofs
set_option maxRecDepth 100000
def ErrB (e : Int) : Prop := 0 ≤ e ∧ e ≤ 12
theorem zero_b : ErrB 0 := ⟨by decide, by decide⟩
theorem one_b : ErrB 1 := ⟨by decide, by decide⟩
theorem two_b : ErrB 2 := ⟨by decide, by decide⟩
theorem three_b : ErrB 3 := ⟨by decide, by decide⟩
theorem four_b : ErrB 4 := ⟨by decide, by decide⟩
theorem six_b : ErrB 6 := ⟨by decide, by decide⟩
theorem seven_b : ErrB 7 := ⟨by decide, by decide⟩
theorem nine_b : ErrB 9 := ⟨by decide, by decide⟩
theorem rowsErr_b (l : List Row) : ErrB (rowsErr l) := by
  unfold rowsErr ErrB
  repeat' split
  all_goals omega
theorem errL_b : ∀ X : List (List Row), ErrB (errL X)
  | [] => ⟨by decide, by decide⟩
  | l :: m => by
    rw [errL]
    split
    · exact errL_b m
    · exact rowsErr_b l
theorem mergeP_b (a b c : List Row) : ErrB (mergeP a b c).2.2 := by
  rw [mergeP]
  split
  · split
    · exact two_b
    · exact zero_b
  · exact errL_b _
theorem patchP_b (l : List Row) (d : List Change) : ErrB (patchP l d).2 := by
  have := rowsErr_b l
  unfold patchP
  repeat' split
  all_goals first | exact this | exact zero_b | exact one_b | exact two_b | exact three_b | exact four_b | exact six_b | exact seven_b | exact nine_b
theorem headP_b {r : Repo} (hr : repoErr r = 0) (s : ByteArray) : ErrB (headP r s).2 := by
  rcases headP_err hr s with h | h <;> rw [h] <;> exact ⟨by decide, by decide⟩
theorem jPut_b {r : Repo} (hr : repoErr r = 0) (s : ByteArray) (d : List Change) : ErrB (jPut r s d).2 := by
  have := headP_b hr s
  have h2 := patchP_b (rowsN r.1 (headP r s).1.toNat) d
  unfold jPut putN
  repeat' split
  all_goals first | exact this | exact h2 | exact zero_b | exact one_b | exact two_b | exact three_b | exact four_b | exact six_b | exact seven_b | exact nine_b
theorem jBranch_b {r : Repo} (hr : repoErr r = 0) (s f : ByteArray) : ErrB (jBranch r s f).2 := by
  have := headP_b hr f
  unfold jBranch branchN
  repeat' split
  all_goals first | exact this | exact zero_b | exact one_b | exact two_b | exact three_b | exact four_b | exact six_b | exact seven_b | exact nine_b
theorem jDrop_b {r : Repo} (hr : repoErr r = 0) (s : ByteArray) : ErrB (jDrop r s).2 := by
  have := headP_b hr s
  unfold jDrop
  repeat' split
  all_goals first | exact this | exact zero_b | exact one_b | exact two_b | exact three_b | exact four_b | exact six_b | exact seven_b | exact nine_b
theorem jJoin_b {r : Repo} (hr : repoErr r = 0) (s f : ByteArray) : ErrB (jJoin r s f).2.2 := by
  have h1 := headP_b hr s
  have h2 := headP_b hr f
  have h3 := mergeP_b (baseN r.1 (headP r s).1.toNat (headP r f).1.toNat) (rowsN r.1 (headP r s).1.toNat) (rowsN r.1 (headP r f).1.toNat)
  unfold jJoin joinN
  repeat' split
  all_goals first | exact h1 | exact h2 | exact h3 | exact zero_b | exact one_b | exact two_b | exact three_b | exact four_b | exact six_b | exact seven_b | exact nine_b
theorem hdRows_b {r : Repo} (hr : repoErr r = 0) (h : Bytes) : ErrB (hdRows r h).2 := by
  have := headP_b hr (bl h)
  unfold hdRows
  split
  · exact zero_b
  · exact this
theorem chgP_b {r : Repo} (hr : repoErr r = 0) (h : Bytes) (k v : Int) : ErrB (chgP r h k v).2 := by
  have h1 := hdRows_b hr h
  have h2 := jPut_b hr (bl h) [(k, valueOf (hdRows r h).1 k, v)]
  unfold chgP
  repeat' split
  all_goals first | exact h1 | exact h2 | exact zero_b | exact one_b | exact two_b | exact three_b | exact four_b | exact six_b | exact seven_b | exact nine_b
theorem putO_b {r : Repo} (hr : repoErr r = 0) (h k v : Bytes) : ErrB (putO r h k v).2.2 := by
  unfold putO
  split
  · exact chgP_b hr h _ _
  · exact one_b
theorem cutO_b {r : Repo} (hr : repoErr r = 0) (h k : Bytes) : ErrB (cutO r h k).2.2 := by
  unfold cutO
  split
  · exact chgP_b hr h _ _
  · exact one_b
theorem mergeO_b {r : Repo} (hr : repoErr r = 0) (a b : Bytes) : ErrB (mergeO r (jJoin r (bl a) (bl b))).2.2 := by
  unfold mergeO
  split
  · exact zero_b
  · exact jJoin_b hr _ _
theorem rowsO_b {r : Repo} (hr : repoErr r = 0) (a : Bytes) : ErrB (rowsO r (hdRows r a)).2.2 := by
  unfold rowsO
  split
  · exact zero_b
  · exact hdRows_b hr a
theorem rootO_b {r : Repo} (hr : repoErr r = 0) (a : Bytes) : ErrB (rootO r (hdRows r a)).2.2 := by
  unfold rootO
  split
  · exact zero_b
  · exact hdRows_b hr a
theorem logO_b {r : Repo} (hr : repoErr r = 0) (a : Bytes) : ErrB (logO r (logP r (bl a))).2.2 := by
  have h := headP_b hr (bl a)
  unfold logO logP
  repeat' split
  all_goals first | exact h | exact zero_b
theorem diffO_b {r : Repo} (hr : repoErr r = 0) (a b : Bytes) : ErrB (diffO r (hdRows r a) (hdRows r b)).2.2 := by
  have h1 := hdRows_b hr a
  have h2 := hdRows_b hr b
  unfold diffO
  repeat' split
  all_goals first | exact zero_b | exact h1 | exact h2
theorem jPut_right {r : Repo} (s : ByteArray) (d : List Change) (h : (jPut r s d).2 = 0) : repoErr (jPut r s d).1 = 0 := (put_right (Prod.ext rfl h)).2.1
theorem chgP_right {r : Repo} (hd : Bytes) (k v : Int) (h : (chgP r hd k v).2 = 0) : repoErr (chgP r hd k v).1 = 0 := by
  revert h
  unfold chgP
  repeat' split
  all_goals first | (intro h; exact jPut_right _ _ h) | (intro h; exact absurd h (by decide)) | (intro h; contradiction)
theorem putO_right {r : Repo} (hd k v : Bytes) (h : (putO r hd k v).2.2 = 0) : repoErr (putO r hd k v).1 = 0 := by
  revert h
  unfold putO
  split
  · exact fun h => chgP_right _ _ _ h
  · exact fun h => absurd h (by decide)
theorem cutO_right {r : Repo} (hd k : Bytes) (h : (cutO r hd k).2.2 = 0) : repoErr (cutO r hd k).1 = 0 := by
  revert h
  unfold cutO
  split
  · exact fun h => chgP_right _ _ _ h
  · exact fun h => absurd h (by decide)
theorem jBranch_right {r : Repo} (s f : ByteArray) (h : (jBranch r s f).2 = 0) : repoErr (jBranch r s f).1 = 0 := (branch_right (Prod.ext rfl h)).2.1
theorem jDrop_right {r : Repo} (s : ByteArray) (h : (jDrop r s).2 = 0) : repoErr (jDrop r s).1 = 0 := (drop_right (Prod.ext rfl h)).2.1
theorem mergeO_right {r : Repo} (hr : repoErr r = 0) (s f : ByteArray) (h : (mergeO r (jJoin r s f)).2.2 = 0) : repoErr (mergeO r (jJoin r s f)).1 = 0 := by
  revert h
  unfold mergeO
  split
  · exact fun _ => hr
  · exact fun h => (join_right (c := (jJoin r s f).2.1) (Prod.ext rfl (Prod.ext rfl h))).2.1
theorem rowsO_right {r : Repo} (hr : repoErr r = 0) (p : List Row × Int) (h : (rowsO r p).2.2 = 0) : repoErr (rowsO r p).1 = 0 := by
  revert h
  unfold rowsO
  split
  · exact fun _ => hr
  · rename_i hn; exact fun h => absurd h hn
theorem rootO_right {r : Repo} (hr : repoErr r = 0) (p : List Row × Int) (h : (rootO r p).2.2 = 0) : repoErr (rootO r p).1 = 0 := by
  revert h
  unfold rootO
  split
  · exact fun _ => hr
  · rename_i hn; exact fun h => absurd h hn
theorem logO_right {r : Repo} (hr : repoErr r = 0) (p : List Int × Int) (h : (logO r p).2.2 = 0) : repoErr (logO r p).1 = 0 := by
  revert h
  unfold logO
  split
  · exact fun _ => hr
  · rename_i hn; exact fun h => absurd h hn
theorem diffO_right {r : Repo} (hr : repoErr r = 0) (p q : List Row × Int) (h : (diffO r p q).2.2 = 0) : repoErr (diffO r p q).1 = 0 := by
  revert h
  unfold diffO
  split
  · split
    · exact fun _ => hr
    · rename_i hn; exact fun h => absurd h hn
  · rename_i hn; exact fun h => absurd h hn
theorem wordsO2 (r : Repo) (c h : Bytes) : wordsO r [c, h] = if c = wDrop then okO (jDrop r (bl h)) else if c = wRows then rowsO r (hdRows r h) else if c = wRoot then rootO r (hdRows r h) else if c = wLog then logO r (logP r (bl h)) else noO 1 := rfl
theorem wordsO3 (r : Repo) (c h k : Bytes) : wordsO r [c, h, k] = if c = wCut then cutO r h k else if c = wBranch then okO (jBranch r (bl h) (bl k)) else if c = wMerge then mergeO r (jJoin r (bl h) (bl k)) else if c = wDiff then diffO r (hdRows r h) (hdRows r k) else noO 1 := rfl
theorem wordsO4 (r : Repo) (c h k v : Bytes) : wordsO r [c, h, k, v] = if c = wPut then putO r h k v else noO 1 := rfl
theorem wordsO_b {r : Repo} (hr : repoErr r = 0) : ∀ l : List Bytes, ErrB (wordsO r l).2.2
  | [] => one_b
  | [_] => one_b
  | [c, h] => by
    rw [wordsO2]
    repeat' split
    all_goals first | exact jDrop_b hr _ | exact rowsO_b hr _ | exact rootO_b hr _ | exact logO_b hr _ | exact one_b
  | [c, h, k] => by
    rw [wordsO3]
    repeat' split
    all_goals first | exact cutO_b hr _ _ | exact jBranch_b hr _ _ | exact mergeO_b hr _ _ | exact diffO_b hr _ _ | exact one_b
  | [c, h, k, v] => by
    rw [wordsO4]
    split
    · exact putO_b hr _ _ _
    · exact one_b
  | _ :: _ :: _ :: _ :: _ :: _ => one_b
theorem noO_not {p : Prop} (h : (noO 1).2.2 = 0) : p := absurd h (by decide)
theorem wordsO_right {r : Repo} (hr : repoErr r = 0) : ∀ l : List Bytes, (wordsO r l).2.2 = 0 → repoErr (wordsO r l).1 = 0
  | [] => noO_not
  | [_] => noO_not
  | [c, h] => by
    rw [wordsO2]
    split
    · exact jDrop_right _
    · split
      · exact rowsO_right hr _
      · split
        · exact rootO_right hr _
        · split
          · exact logO_right hr _
          · exact noO_not
  | [c, h, k] => by
    rw [wordsO3]
    split
    · exact cutO_right _ _
    · split
      · exact jBranch_right _ _
      · split
        · exact mergeO_right hr _ _
        · split
          · exact diffO_right hr _ _
          · exact noO_not
  | [c, h, k, v] => by
    rw [wordsO4]
    split
    · exact putO_right _ _ _
    · exact noO_not
  | _ :: _ :: _ :: _ :: _ :: _ => noO_not
theorem lineP_ok {r : Repo} {s : Bytes} (h : (wordsO r (spl s)).2.2 = 0) : lineP r s = ((wordsO r (spl s)).1, (wordsO r (spl s)).2.1) := if_pos h
theorem lineP_no {r : Repo} {s : Bytes} (h : (wordsO r (spl s)).2.2 ≠ 0) : lineP r s = (r, [101, 114, 114, 111, 114, 32] ++ dgL (wordsO r (spl s)).2.2) := if_neg h
theorem lineP_right {r : Repo} (hr : repoErr r = 0) (s : Bytes) : repoErr (lineP r s).1 = 0 := by
  by_cases h : (wordsO r (spl s)).2.2 = 0
  · rw [lineP_ok h]; exact wordsO_right hr _ h
  · rw [lineP_no h]; exact hr
theorem LinePost.is [Zone] {T : Nat} {w w' : World} {r : Repo} {s : Bytes} {e : Ending} (h : LinePost T w r (wordsO r (spl s)) e w') : Step (fun k => k = T) w w' ∧ e = .returned (.string (bl (lineP r s).2)) ∧ DeskTab w' T (lineP r s).1 := by
  obtain ⟨h1, h2⟩ := h
  by_cases h0 : (wordsO r (spl s)).2.2 = 0
  · rw [if_pos h0] at h2
    rw [lineP_ok h0]
    exact ⟨h1, h2⟩
  · rw [if_neg h0] at h2
    rw [lineP_no h0]
    exact ⟨h1, h2⟩
theorem wordF_none {c : Bytes} (h : wordF c = none) : c ≠ wPut ∧ c ≠ wCut ∧ c ≠ wBranch ∧ c ≠ wDrop ∧ c ≠ wMerge ∧ c ≠ wRows ∧ c ≠ wRoot ∧ c ≠ wLog ∧ c ≠ wDiff := by
  refine ⟨?_, ?_, ?_, ?_, ?_, ?_, ?_, ?_, ?_⟩ <;> (rintro rfl; revert h; decide)
theorem wordsO_none {r : Repo} {c : Bytes} (h : wordF c = none) : ∀ ws, wordsO r (c :: ws) = noO 1 := by
  obtain ⟨h1, h2, h3, h4, h5, h6, h7, h8, h9⟩ := wordF_none h
  intro ws
  match ws with
  | [] => rfl
  | [h] => rw [wordsO2, if_neg h4, if_neg h6, if_neg h7, if_neg h8]
  | [h, k] => rw [wordsO3, if_neg h2, if_neg h3, if_neg h5, if_neg h9]
  | [h, k, v] => rw [wordsO4, if_neg h1]
  | _ :: _ :: _ :: _ :: _ => rfl
set_option maxHeartbeats 1000000 in
theorem deskLine [Zone] (T : Nat) (r : Repo) (s : Bytes) (w : World) (hr : repoErr r = 0) (hV : Vars w) (hD : DeskTab w T r) (hs : s.length ≤ 4096) (h8 : 8 ≤ T) :
    Calls Tryz.prog 12 #[.pointer (some ⟨T, 0, none⟩), .string (bl s)] w fun e w' => Step (fun k => k = T) w w' ∧ e = .returned (.string (bl (lineP r s).2)) ∧ DeskTab w' T (lineP r s).1 := by
  obtain ⟨c, ws, hws⟩ := spl_some s
  have hsh := spl_short s
  rw [hws] at hsh
  have hb := wordsO_b hr (spl s)
  have ho : 0 ≤ (wordsO r (spl s)).2.2 ∧ i64ok (wordsO r (spl s)).2.2 := ⟨hb.1, by have := hb.1; omega, by have := hb.2; omega⟩
  refine Calls.mono (R := LinePost T w r (wordsO r (spl s))) ?_ fun e w' h => h.is
  have bad : ∀ (n : Nat) (f : FuncId), wordF c = some (n, f) → n ≤ 3 → ws.length ≠ n → wordsO r (c :: ws) = noO 1 → Calls Tryz.prog 12 #[.pointer (some ⟨T, 0, none⟩), .string (bl s)] w (LinePost T w r (wordsO r (spl s))) := fun n f h1 h2 h3 h4 => by
    rw [hws, h4]
    exact lineBad T r s c ws n f w hV hD hs hws h1 h2 h3
  by_cases h1 : c = wPut
  · subst h1
    have hwf : wordF wPut = some (3, 49) := by decide
    by_cases hl : ws.length = 3
    · match ws, hl with
      | [h, k, x], _ =>
        have hO : wordsO r (spl s) = putO r h k x := by rw [hws]; rfl
        rw [hO] at ho ⊢
        exact lineGood T r _ s _ _ 3 _ w hV hD hs hws hwf (by decide) rfl ho h8 (fun _ _ => by simp [go_sem]) fun W cb v gV gD gc gs => wordPut T cb r h k x hr W gV gD gc v gs (Nat.le_trans (hsh k (by simp)) hs) (Nat.le_trans (hsh x (by simp)) hs)
    · exact bad _ _ hwf (by decide) hl (by
          match ws, hl with
          | [], _ => rfl
          | [_], _ => rfl
          | [_, _], _ => rfl
          | [_, _, _], hl => exact absurd rfl hl
          | _ :: _ :: _ :: _ :: _, _ => rfl)
  by_cases h2 : c = wCut
  · subst h2
    have hwf : wordF wCut = some (2, 52) := by decide
    by_cases hl : ws.length = 2
    · match ws, hl with
      | [h, k], _ =>
        have hO : wordsO r (spl s) = cutO r h k := by rw [hws]; rfl
        rw [hO] at ho ⊢
        exact lineGood T r _ s _ _ 2 _ w hV hD hs hws hwf (by decide) rfl ho h8 (fun _ _ => by simp [go_sem]) fun W cb v gV gD gc gs => wordCut T cb r h k hr W gV gD gc v gs (Nat.le_trans (hsh k (by simp)) hs)
    · exact bad _ _ hwf (by decide) hl (by
          match ws, hl with
          | [], _ => rfl
          | [_], _ => rfl
          | [_, _], hl => exact absurd rfl hl
          | [_, _, _], _ => rfl
          | _ :: _ :: _ :: _ :: _, _ => rfl)
  by_cases h3 : c = wBranch
  · subst h3
    have hwf : wordF wBranch = some (2, 53) := by decide
    by_cases hl : ws.length = 2
    · match ws, hl with
      | [h, k], _ =>
        have hO : wordsO r (spl s) = okO (jBranch r (bl h) (bl k)) := by rw [hws]; rfl
        rw [hO] at ho ⊢
        exact lineGood T r _ s _ _ 2 _ w hV hD hs hws hwf (by decide) rfl ho h8 (fun _ _ => by simp [go_sem]) fun W cb v gV gD gc gs => wordBranch T cb r h k hr W gV gD gc v gs
    · exact bad _ _ hwf (by decide) hl (by
          match ws, hl with
          | [], _ => rfl
          | [_], _ => rfl
          | [_, _], hl => exact absurd rfl hl
          | [_, _, _], _ => rfl
          | _ :: _ :: _ :: _ :: _, _ => rfl)
  by_cases h4 : c = wDrop
  · subst h4
    have hwf : wordF wDrop = some (1, 56) := by decide
    by_cases hl : ws.length = 1
    · match ws, hl with
      | [h], _ =>
        have hO : wordsO r (spl s) = okO (jDrop r (bl h)) := by rw [hws]; rfl
        rw [hO] at ho ⊢
        exact lineGood T r _ s _ _ 1 _ w hV hD hs hws hwf (by decide) rfl ho h8 (fun _ _ => by simp [go_sem]) fun W cb v gV gD gc gs => wordDrop T cb r h hr W gV gD gc v gs
    · exact bad _ _ hwf (by decide) hl (by
          match ws, hl with
          | [], _ => rfl
          | [_], hl => exact absurd rfl hl
          | [_, _], _ => rfl
          | [_, _, _], _ => rfl
          | _ :: _ :: _ :: _ :: _, _ => rfl)
  by_cases h5 : c = wMerge
  · subst h5
    have hwf : wordF wMerge = some (2, 58) := by decide
    by_cases hl : ws.length = 2
    · match ws, hl with
      | [h, k], _ =>
        have hO : wordsO r (spl s) = mergeO r (jJoin r (bl h) (bl k)) := by rw [hws]; rfl
        rw [hO] at ho ⊢
        exact lineGood T r _ s _ _ 2 _ w hV hD hs hws hwf (by decide) rfl ho h8 (fun _ _ => by simp [go_sem]) fun W cb v gV gD gc gs => wordMerge T cb r h k hr W gV gD gc v gs
    · exact bad _ _ hwf (by decide) hl (by
          match ws, hl with
          | [], _ => rfl
          | [_], _ => rfl
          | [_, _], hl => exact absurd rfl hl
          | [_, _, _], _ => rfl
          | _ :: _ :: _ :: _ :: _, _ => rfl)
  by_cases h6 : c = wRows
  · subst h6
    have hwf : wordF wRows = some (1, 60) := by decide
    by_cases hl : ws.length = 1
    · match ws, hl with
      | [h], _ =>
        have hO : wordsO r (spl s) = rowsO r (hdRows r h) := by rw [hws]; rfl
        rw [hO] at ho ⊢
        exact lineGood T r _ s _ _ 1 _ w hV hD hs hws hwf (by decide) rfl ho h8 (fun _ _ => by simp [go_sem]) fun W cb v gV gD gc gs => wordRows T cb r h hr W gV gD gc v gs
    · exact bad _ _ hwf (by decide) hl (by
          match ws, hl with
          | [], _ => rfl
          | [_], hl => exact absurd rfl hl
          | [_, _], _ => rfl
          | [_, _, _], _ => rfl
          | _ :: _ :: _ :: _ :: _, _ => rfl)
  by_cases h7 : c = wRoot
  · subst h7
    have hwf : wordF wRoot = some (1, 65) := by decide
    by_cases hl : ws.length = 1
    · match ws, hl with
      | [h], _ =>
        have hO : wordsO r (spl s) = rootO r (hdRows r h) := by rw [hws]; rfl
        rw [hO] at ho ⊢
        exact lineGood T r _ s _ _ 1 _ w hV hD hs hws hwf (by decide) rfl ho h8 (fun _ _ => by simp [go_sem]) fun W cb v gV gD gc gs => wordRoot T cb r h hr W gV gD gc v gs
    · exact bad _ _ hwf (by decide) hl (by
          match ws, hl with
          | [], _ => rfl
          | [_], hl => exact absurd rfl hl
          | [_, _], _ => rfl
          | [_, _, _], _ => rfl
          | _ :: _ :: _ :: _ :: _, _ => rfl)
  by_cases h8' : c = wLog
  · subst h8'
    have hwf : wordF wLog = some (1, 68) := by decide
    by_cases hl : ws.length = 1
    · match ws, hl with
      | [h], _ =>
        have hO : wordsO r (spl s) = logO r (logP r (bl h)) := by rw [hws]; rfl
        rw [hO] at ho ⊢
        exact lineGood T r _ s _ _ 1 _ w hV hD hs hws hwf (by decide) rfl ho h8 (fun _ _ => by simp [go_sem]) fun W cb v gV gD gc gs => wordLog T cb r h hr W gV gD gc v gs
    · exact bad _ _ hwf (by decide) hl (by
          match ws, hl with
          | [], _ => rfl
          | [_], hl => exact absurd rfl hl
          | [_, _], _ => rfl
          | [_, _, _], _ => rfl
          | _ :: _ :: _ :: _ :: _, _ => rfl)
  by_cases h9 : c = wDiff
  · subst h9
    have hwf : wordF wDiff = some (2, 71) := by decide
    by_cases hl : ws.length = 2
    · match ws, hl with
      | [h, k], _ =>
        have hO : wordsO r (spl s) = diffO r (hdRows r h) (hdRows r k) := by rw [hws]; rfl
        rw [hO] at ho ⊢
        exact lineGood T r _ s _ _ 2 _ w hV hD hs hws hwf (by decide) rfl ho h8 (fun _ _ => by simp [go_sem]) fun W cb v gV gD gc gs => wordDiff T cb r h k hr W gV gD gc v gs
    · exact bad _ _ hwf (by decide) hl (by
          match ws, hl with
          | [], _ => rfl
          | [_], _ => rfl
          | [_, _], hl => exact absurd rfl hl
          | [_, _, _], _ => rfl
          | _ :: _ :: _ :: _ :: _, _ => rfl)
  have hwf : wordF c = none := by simp [wordF, h1, h2, h3, h4, h5, h6, h7, h8', h9]
  rw [hws, wordsO_none hwf]
  exact lineNone T r s c ws w hV hD hs hws hwf
end Go.Pch
end

section
namespace Go.Pch
open Go.RowKit
structure KeepX (N : Nat) (R : Blk) (A B : World) : Prop where
  os : B.os = A.os
  tape : B.tape = A.tape
  output : B.output = A.output
  size : A.heap.size ≤ B.heap.size
  block : ∀ k, k < N → ¬ R k → B.heap[k]? = A.heap[k]?
theorem KeepX.trans {N : Nat} {R : Blk} {A B C : World} (h : KeepX N R A B) (g : KeepX N R B C) : KeepX N R A C :=
  ⟨g.os.trans h.os, g.tape.trans h.tape, g.output.trans h.output, Nat.le_trans h.size g.size, fun k hk hr => (g.block k hk hr).trans (h.block k hk hr)⟩
theorem KeepX.of_below {N : Nat} {R : Blk} {A B : World} (h : Below N A B) : KeepX N R A B := ⟨h.os, h.tape, h.output, h.size, fun k hk _ => h.block k hk⟩
theorem KeepX.putObj {N : Nat} {R : Blk} {A : World} {k : Nat} (o : Obj) (hk : N ≤ k) : KeepX N R A (A.putObj k o) :=
  ⟨rfl, rfl, rfl, by simp, fun i hi _ => World.putObj_heap_other (by omega)⟩
def SeqStr (P : Program) (gf : FuncId) (lb : Array Value) (N0 : Nat) (R : Blk) (Bl : Nat) (out : List ByteArray) (w0 : World) : Prop :=
  ∀ (l : Nat) (J : List ByteArray → World → Prop) (W : World), KeepX N0 R w0 W →
    (∀ pre A B, J pre A → A.grownBy B (some Bl) → J pre B) →
    (∀ pre x A W1, J pre A → A.grownBy W1 (some Bl) → pre ++ [x] <+: out →
      YieldAt Fence.wide 0 P l #[.string x] W1 fun e W' => e = .returned (.bool true) ∧ J (pre ++ [x]) W' ∧ KeepX N0 R W1 W') →
    J [] W → CallsIn Fence.wide 0 P gf (#[.func (.yield l) #[] #[]] ++ lb) W fun e W' => (∃ v, e = .returned v) ∧ J out W'
def roundEndsX (N0 : Nat) (R : Blk) (l D : Nat) (I : World → Prop) (W2 : World) : Exit → Act → World → Prop
  | .normal, _, W3 => I W3 ∧ KeepX N0 R W2 W3 ∧ W3.heap[l]? = W2.heap[l]? ∧ W3.heap[D]? = W2.heap[D]?
  | _, _, _ => False
theorem wpIn_overS {P : Program} {gf : FuncId} {lb : Array Value} {g : Operand} {ps : Array Tmp} {assign body : Code} {Q : Exit → Act → World → Prop} {a : Act} {w : World} {R : Blk} {Bl : Nat} {out : List ByteArray}
    (hg : a.eval g = .func (.func gf) #[] lb) (eg : ∀ args w, (callFunc gf args).run P w = .ok (.enter gf args) w) (hseq : SeqStr P gf lb w.heap.size R Bl out w) (hBl : Bl < w.heap.size) (hps : ps.size = 1)
    (I : List ByteArray → World → Prop) (hI : ∀ pre A B, I pre A → A.grownBy B (some Bl) → I pre B) (hI2 : ∀ pre A o, I pre A → I pre (A.putObj (w.heap.size + 1) o)) (h0 : I [] w) (a₁ : ByteArray → Act)
    (hassign : ∀ (l : Nat) (x : ByteArray) (W : World) (K : Act → World → Prop), K (a₁ x) W →
      assign.wpIn (Fence.wide.inRound l) 0 P (Exit.then K (fun _ _ _ => False)) { tmps := (ps.zip #[Value.string x]).foldl (fun t (p, v) => t.setIfInBounds p v) a.tmps, defers := [] } W)
    (hbody : ∀ (l : Nat) (pre : List ByteArray) (x : ByteArray) (A W2 : World), l = w.heap.size + 1 → I pre A → l < A.heap.size → A.heap.size ≤ W2.heap.size → (W2.os = A.os ∧ W2.tape = A.tape ∧ W2.output = A.output) → (∀ k, k < A.heap.size → k ≠ Bl → k ≠ l → W2.heap[k]? = A.heap[k]?) →
      pre ++ [x] <+: out → body.wpIn (Fence.wide.inRound l) 0 P (roundEndsX w.heap.size R l w.heap.size (I (pre ++ [x])) W2) (a₁ x) W2)
    (hdone : ∀ (W : World), I out W → W.heap[w.heap.size]? = some (.deferred (some [])) → Q .normal { a with defers := { target := .collected w.heap.size, args := #[] } :: a.defers } W) :
    (Code.rangeFunc g ps assign body).wpIn Fence.wide 0 P Q a w := by
  refine wpIn_rangeFunc ?_
  intro fn hfn
  obtain ⟨rec, hrec⟩ : ∃ rec : LoopState → Option Code → Loop, rec = fun st pe => { state := st, pending := pe, fn, tmps := a.tmps, params := ps, assign, body, defers := w.heap.size } := ⟨_, rfl⟩
  obtain ⟨W1, hW1⟩ : ∃ W1, (w.alloc (.deferred (some []))).alloc (.loop (rec .ready none)) = W1 := ⟨_, rfl⟩
  have hL1 : W1.heap[w.heap.size + 1]? = some (.loop (rec .ready none)) := by
    rw [← hW1]; have := World.alloc_heap_new (w.alloc (.deferred (some []))) (.loop (rec .ready none)); rwa [World.size_alloc] at this
  have hK1 : W1.heap[w.heap.size]? = some (.deferred (some [])) := by
    rw [← hW1]; exact (Below.heap_alloc _ _ _ (by simp)).trans (World.alloc_heap_new w _)
  have hI1 : I [] W1 := by rw [← hW1]; exact hI _ _ _ (hI _ _ _ h0 (World.grownBy_alloc _ _ _)) (World.grownBy_alloc _ _ _)
  have hb1 : Below w.heap.size w W1 := by rw [← hW1]; exact ((Below.refl _ w).alloc (Nat.le_refl _) _).alloc (by simp) _
  refine ⟨w.heap.size + 1, [{ target := .collected w.heap.size, args := #[] }], W1, { target := .fn (.func gf) lb, args := #[.func (.yield (w.heap.size + 1)) #[] #[]] }, W1, gf,
    #[.func (.yield (w.heap.size + 1)) #[] #[]] ++ lb, W1, ?_, ?_, ?_, ?_, (fun h => by cases h), ?_⟩
  · rw [← hW1, hrec]; exact run_enterLoop_outer _ _ _ _ _
  · simp only [resolve, hg]
    simp [go_sem]
  · intro f' _; trivial
  · simp [invoke, go_sem, eg]
  · refine (hseq (w.heap.size + 1) (fun pre W => I pre W ∧ W.heap[w.heap.size + 1]? = some (.loop (rec .ready none)) ∧ W.heap[w.heap.size]? = some (.deferred (some []))) W1 (.of_below hb1) ?_ ?_ ⟨hI1, hL1, hK1⟩).mono ?_
    · rintro pre A B ⟨h1, h2, h3⟩ hg'
      refine ⟨hI _ _ _ h1 hg', (hg'.block _ (Array.getElem?_eq_some_iff.1 h2).1 ?_).trans h2, (hg'.block _ (Array.getElem?_eq_some_iff.1 h3).1 ?_).trans h3⟩
      · intro e; have := Option.some.inj e; omega
      · intro e; have := Option.some.inj e; omega
    · rintro pre x A W ⟨hi, hlA, hkA⟩ hAW hpre
      have hltA : w.heap.size + 1 < A.heap.size := (Array.getElem?_eq_some_iff.1 hlA).1
      have hl : W.heap[w.heap.size + 1]? = some (.loop (rec .ready none)) := (hAW.block _ hltA (by intro e; have := Option.some.inj e; omega)).trans hlA
      have hk : W.heap[w.heap.size]? = some (.deferred (some [])) := (hAW.block _ (by omega) (by intro e; have := Option.some.inj e; omega)).trans hkA
      have hlt : w.heap.size + 1 < W.heap.size := (Array.getElem?_eq_some_iff.1 hl).1
      have hy := run_yield (P := P) (args := #[Value.string x]) hl (by rw [hrec]; exact hps.symm)
      rw [hrec] at hy
      refine ⟨fn, _, assign, body, hy, roundIn_of_wpIn trivial (hassign _ x W _ ⟨_, run_beginRound hl (by rw [hrec]), ?_⟩)⟩
      have hl2 : (W.putObj (w.heap.size + 1) (.loop { rec .ready none with state := .busy })).heap[w.heap.size + 1]? = some (.loop { rec .ready none with state := .busy }) := World.putObj_heap_same hlt
      have hk2 : (W.putObj (w.heap.size + 1) (.loop { rec .ready none with state := .busy })).heap[w.heap.size]? = some (.deferred (some [])) := (World.putObj_heap_other (by omega)).trans hk
      refine wpIn_mono (hbody _ pre x A _ rfl hi hltA (by simp; exact hAW.size) ⟨hAW.os, hAW.tape, hAW.output⟩ (fun k hk' h1 h2 => (World.putObj_heap_other h2).trans (hAW.block k hk' (by intro e; exact h1 (Option.some.inj e)))) hpre) ?_
      rintro e a3 W3 hp
      cases e with
      | normal =>
        obtain ⟨hi3, hkp3, hl3, hd3⟩ := hp
        have hl3' := hl3.trans hl2
        have hd3' := hd3.trans hk2
        have hr := run_endRound (P := P) none hl3'
        refine ⟨_, _, hr, rfl, ⟨hI2 _ _ _ hi3, ?_, ?_⟩, (KeepX.trans (.putObj _ (by omega)) hkp3).trans (.putObj _ (by omega))⟩
        · rw [World.putObj_heap_same (Array.getElem?_eq_some_iff.1 hl3').1, hrec]; rfl
        · exact (World.putObj_heap_other (by omega)).trans hd3'
      | ret => exact hp.elim
      | exit id => exact hp.elim
      | goto t => exact hp.elim
      | panic ch => exact hp.elim
      | outgrown => exact hp.elim
    · rintro e W2 ⟨⟨v, rfl⟩, hi, hl, hk⟩
      have := run_endLoop (P := P) hl (by rw [hrec]; simp)
      rw [hrec] at this
      exact ⟨none, _, this, hdone _ (hI2 _ _ _ hi) ((World.putObj_heap_other (by omega)).trans hk)⟩
end Go.Pch
end

section
namespace Go.Pch
open Go.RowKit Go.Proofs
attribute [local go_sem] Oper.semAt_some
set_option maxRecDepth 100000
def lns : Bytes → List Bytes
  | [] => []
  | c :: s => if c = 10 then [10] :: lns s else match lns s with
    | [] => [[c]]
    | x :: xs => (c :: x) :: xs
theorem lns_last : ∀ t : Bytes, Lib.indexByte t 10 = -1 → t ≠ [] → lns t = [t]
  | [c], h, _ => by
    have hc : c ≠ 10 := by rintro rfl; simp [Lib.indexByte] at h
    simp [lns, hc]
  | c :: d :: t, h, _ => by
    have hc : c ≠ 10 := by rintro rfl; simp [Lib.indexByte] at h
    have h2 : Lib.indexByte (d :: t) 10 = -1 := by
      rw [Lib.indexByte, if_neg (by simpa using hc)] at h
      split at h
      · rename_i he; simpa using he
      · have := Lib.indexByte_ge (d :: t) 10; omega
    rw [lns, if_neg hc, lns_last (d :: t) h2 (by simp)]
theorem lns_cut : ∀ (t : Bytes) (i : Nat), Lib.indexByte t 10 = (i : Int) → i < t.length ∧ lns t = t.take (i + 1) :: lns (t.drop (i + 1))
  | [], i, h => by simp [Lib.indexByte] at h
  | c :: t, i, h => by
    rw [Lib.indexByte] at h
    by_cases hc : c = 10
    · subst hc
      have hi : i = 0 := by simp at h; omega
      subst hi
      simp [lns]
    · rw [if_neg (by simpa using hc)] at h
      split at h
      · omega
      · rename_i he
        have hge := Lib.indexByte_ge t 10
        have he' : Lib.indexByte t 10 ≠ -1 := by simpa using he
        obtain ⟨j, hj⟩ : ∃ j : Nat, Lib.indexByte t 10 = (j : Int) := ⟨(Lib.indexByte t 10).toNat, by omega⟩
        obtain ⟨h1, h2⟩ := lns_cut t j hj
        obtain rfl : i = j + 1 := by omega
        refine ⟨by simp; omega, ?_⟩
        rw [lns, if_neg hc, h2]
        simp
theorem linesOf (s : ByteArray) (w : World) : Calls Tryz.prog 10 #[.string s] w (fun e w' => e = .returned (.func (.func 22) #[] #[.pointer (some ⟨w.heap.size, 0, none⟩)]) ∧ w.alloc (.cells #[.string s] 9) = w') := by
  go_enter Tryz.func10, Tryz.ntmps10
  go_wp2
  go_ret
  exact ⟨rfl, rfl⟩
def strAt (w : World) (b : Nat) : Nat := match w.cell? ⟨b, 0, none⟩ with
  | some (.string s) => s.size
  | _ => 0
theorem strAt_of {w : World} {b : Nat} {s : ByteArray} (h : w.cell? ⟨b, 0, none⟩ = some (.string s)) : strAt w b = s.size := by rw [strAt, h]
theorem idxLF (t : Bytes) (w : World) : Calls Tryz.prog 23 #[.string (bl t), .int .u8 10] w fun e w' => e = .returned (.int .i64 (Lib.indexByte t 10)) ∧ w' = w := Tryz.strings_IndexByte (bl t) 10 w
theorem prefix_app {pre rest all : List ByteArray} {x : ByteArray} (h : all = pre ++ x :: rest) : pre ++ [x] <+: all := ⟨rest, by rw [h]; simp⟩
set_option maxHeartbeats 1000000 in
theorem linesSeq (w0 : World) (N0 Bl : Nat) (R : Blk) (t : Bytes) (hl : w0.cell? ⟨Bl, 0, none⟩ = some (.string (bl t))) (hf : w0.frozen? ⟨Bl, 0, none⟩ = false) (b1 : Bl < N0) (b2 : ¬ R Bl) (hL : t.length ≤ 1000000) :
    SeqStr Tryz.prog 22 #[.pointer (some ⟨Bl, 0, none⟩)] N0 R Bl ((lns t).map bl) w0 := by
  intro l J W hW hJ hY h0
  have hl0 : W.cell? ⟨Bl, 0, none⟩ = some (.string (bl t)) := (World.cell?_of_block (hW.block Bl b1 b2)).trans hl
  have hf0 : W.frozen? ⟨Bl, 0, none⟩ = false := (World.frozen?_of_block (hW.block Bl b1 b2)).trans hf
  clear hl hf
  refine callsIn_of_wp Tryz.func22 rfl trivial ?_ rfl
  simp only [Tryz.ntmps22, List.size_toArray, List.length_cons, List.length_nil, Nat.reduceAdd, Nat.reduceSub, Array.replicate_succ, Array.replicate_zero, List.push_toArray, List.append_toArray, List.nil_append, List.cons_append]
  gi_wp2
  gi_loopw [4] (fun _ wr => ∃ (pre : List ByteArray) (rest : Bytes), Hid ((lns t).map bl = pre ++ (lns rest).map bl) ∧ rest.length ≤ 1000000 ∧ wr.cell? ⟨Bl, 0, none⟩ = some (.string (bl rest)) ∧ wr.frozen? ⟨Bl, 0, none⟩ = false ∧ Hid (J pre wr)) (fun _ wr => strAt wr Bl)
  case atStart => exact ⟨[], t, rfl, hL, hl0, hf0, h0⟩
  case round =>
    obtain ⟨pre, rest, hch, hrl, hcl, hcf, hj⟩ := hrel
    have hsz := bl_size rest
    have hbl : Bl < wr.heap.size := World.block_lt_of_cell? _ _ hcl
    by_cases hr : rest = []
    · subst hr
      gi_wp2
      go_end0
      exact ⟨⟨_, rfl⟩, by have := hch.out; simp only [lns, List.map_nil, List.append_nil] at this; rw [this]; exact hj.out⟩
    · have hp := List.length_pos_iff.2 hr
      have hp' : 0 < (bl rest).size := by omega
      by_cases hix : Lib.indexByte rest 10 = -1
      · have HL : Hid (lns rest = [rest]) := keepBack (lns_last rest hix hr)
        gi_wp2_with fail
        refine ⟨trivial, rfl, callsIn_wide.2 ?_⟩
        refine (idxLF rest wr).mono ?_; rintro e w' ⟨rfl, rfl⟩
        rw [hix]
        have hpre : pre ++ [bl rest] <+: (lns t).map bl := prefix_app (rest := []) (by rw [hch.out, HL.out]; rfl)
        obtain ⟨fn, tmps, assign, body, hy, hR⟩ := hY pre (bl (rest)) w' (w'.setCell ⟨Bl, 0, none⟩ (.string ⟨#[]⟩)) hj.out (grown_setCellC _ _ _) hpre
        gi_wp2_with fail
        refine ⟨rfl, ?_⟩
        refine hR.mono ?_
        rintro e w3 ⟨rfl, hj3, hkp⟩
        have hcl3 := (World.cell?_of_block (hkp.block Bl b1 b2)).trans (World.cell?_setCell_same (w := w') _ (.string ⟨#[]⟩) hcl)
        have hcf3 : w3.frozen? ⟨Bl, 0, none⟩ = false := (World.frozen?_of_block (hkp.block Bl b1 b2)).trans (by rw [World.frozen?_setCell]; exact hcf)
        gi_wp2
        go_roundw
        case rel => exact ⟨pre ++ [bl rest], [], keepBack (by rw [hch.out, HL.out]; simp [lns]), Nat.zero_le _, hcl3, hcf3, hj3⟩
        case measure =>
          rw [strAt_of hcl, strAt_of hcl3]
          exact hp'
      · obtain ⟨i, hi⟩ : ∃ i : Nat, Lib.indexByte rest 10 = (i : Int) := ⟨(Lib.indexByte rest 10).toNat, by have := Lib.indexByte_ge rest 10; omega⟩
        have HL := lns_cut rest i hi
        obtain ⟨hil, HL⟩ := HL
        have HL := keepBack HL
        have hs1 : (i : Int) + 1 ≤ ((bl rest).size : Int) := by omega
        have hs0 : (0 : Int) ≤ (i : Int) + 1 := by omega
        have hw1 : ¬ (9223372036854775807 : Int) < (i : Int) + 1 := by omega
        have hw2 : (i : Int) + 1 ≤ 9223372036854775807 := by omega
        have hw3 : -9223372036854775808 ≤ (i : Int) + 1 := by omega
        have sl1 : ∀ W, Sem.run Tryz.prog (Instr.slice 9 (.string (bl rest)) none (some (.int .i64 ((i : Int) + 1))) none) W = .ok (.string (bl (rest.take (i + 1)))) W := fun W =>
          (run_slice_string_h W _ (bl rest) (by kernel_rfl) .i64 ((i : Int) + 1) hs0 hs1).trans (by rw [show ((i : Int) + 1).toNat = i + 1 by omega, bl_cut, List.drop_zero]; rfl)
        have sl2 : ∀ W, Sem.run Tryz.prog (Instr.slice 9 (.string (bl rest)) (some (.int .i64 ((i : Int) + 1))) none none) W = .ok (.string (bl (rest.drop (i + 1)))) W := fun W =>
          (run_slice_string_l W _ (bl rest) (by kernel_rfl) .i64 ((i : Int) + 1) hs0 hs1).trans (by rw [show ((i : Int) + 1).toNat = i + 1 by omega, bl_cut, hsz, List.take_of_length_le (by simp)])
        clear hix
        gi_wp2_with fail
        refine ⟨trivial, rfl, callsIn_wide.2 ?_⟩
        refine (idxLF rest wr).mono ?_; rintro e w' ⟨rfl, rfl⟩
        rw [hi]
        have hpre : pre ++ [bl (rest.take (i + 1))] <+: (lns t).map bl := prefix_app (rest := (lns (rest.drop (i + 1))).map bl) (by rw [hch.out, HL.out]; rfl)
        gi_wp2_with fail
        gi_region
        all_goals try clear sl1 sl2 hs1 hs0 hw1 hw2 hw3
        have hg := grown_setCellC w' ⟨Bl, 0, none⟩ (.string (bl (rest.drop (i + 1))))
        obtain ⟨fn, tmps, assign, body, hy, hR⟩ := hY pre (bl (rest.take (i + 1))) w' (w'.setCell ⟨Bl, 0, none⟩ (.string (bl (rest.drop (i + 1))))).drew hj.out ⟨hg.os, hg.tape, hg.output, hg.size, hg.block⟩ hpre
        gi_wp2_with fail
        refine ⟨rfl, ?_⟩
        refine hR.mono ?_
        rintro e w3 ⟨rfl, hj3, hkp⟩
        have hcl3 := (World.cell?_of_block (hkp.block Bl b1 b2)).trans (World.cell?_setCell_same (w := w') _ (.string (bl (rest.drop (i + 1)))) hcl)
        have hcf3 : w3.frozen? ⟨Bl, 0, none⟩ = false := (World.frozen?_of_block (hkp.block Bl b1 b2)).trans (by show (w'.setCell _ _).frozen? _ = false; rw [World.frozen?_setCell]; exact hcf)
        gi_wp2
        go_roundw
        case rel => exact ⟨pre ++ [bl (rest.take (i + 1))], rest.drop (i + 1), keepBack (by rw [hch.out, HL.out]; simp), by simp; omega, hcl3, hcf3, hj3⟩
        case measure =>
          rw [strAt_of hcl, strAt_of hcl3, bl_size, bl_size, List.length_drop]
          omega
end Go.Pch
end
