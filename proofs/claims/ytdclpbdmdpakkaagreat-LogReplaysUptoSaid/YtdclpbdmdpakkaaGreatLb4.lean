/- The walks of package dag: checks. Chapter 9: names, heads, repos: plain words, and how their cells read. Chapter 12: bytes: plain words, and how a pen's and a glass' cells read. -/
import Derived.Test.YtdclpbdmdpakkaaGreatLb3
import Derived.Test.YtdclpbdmdpakkaaGreatLb2
import Derived.Lib.AppendStr
import Derived.Laws.IdiomStrings
section
namespace Go.Pch
open Go.RowKit Go.Proofs

theorem aInt : At Tryz.prog tInt 26 3 := At.mk' Tryz.underlying26 (z := .int .i64 0) (size := 1) (bytes := 8) (by kernel_rfl) rfl rfl (by decide)
theorem aCom : At Tryz.prog tCommit 22 67 := At.mk' Tryz.underlying22 (z := .agg #[.slice none 0 0, .slice none 0 0]) (size := 2) (bytes := 48) (by kernel_rfl) rfl rfl (by decide)

theorem commitsErr_many {l : List Commit} (h : 14 < l.length) : commitsErr l = 2 := by rw [commitsErr, if_pos h]
theorem commitsErr_few {l : List Commit} (h : ¬ 14 < l.length) : commitsErr l = commitsFrom 0 l := by rw [commitsErr, if_neg h]
theorem commitErr_rows {n : Int} {r : List Row} {p : List Int} (h : rowsErr r ≠ 0) : commitErr n (r, p) = rowsErr r := by rw [commitErr, if_pos h]
theorem commitErr_form {n : Int} {r : List Row} {p : List Int} (h : rowsErr r = 0) (h2 : 2 < p.length ∨ risePB n (-1) p = false) : commitErr n (r, p) = 1 := by
  rw [commitErr, if_neg (by simpa using h), if_neg]
  rcases h2 with h2 | h2
  · simp; omega
  · simp [h2]
theorem commitErr_ok {n : Int} {r : List Row} {p : List Int} (h : rowsErr r = 0) (h2 : p.length ≤ 2) (h3 : risePB n (-1) p = true) : commitErr n (r, p) = 0 := by
  rw [commitErr, if_neg (by simpa using h), if_pos]
  simp [h2, h3]

set_option maxHeartbeats 1000000 in
theorem dagCheck (v : Value) (l : List Commit) (S : Blk) (w : World) (h : Sl tCommit w S v l) :
    Calls Tryz.prog 56 #[v] w (Ret w fun r _ => r = .int .i64 (commitsErr l)) := by
  obtain ⟨ao, cap, rfl, hcap, hmax, hnil⟩ := h.shape
  unfold maxLen at hmax
  go_enter Tryz.func56, Tryz.ntmps56
  go_wp2
  · go_ret
    exact ⟨_, rfl, by rw [commitsErr_many (by omega)]; rfl, Below.refl _ _⟩
  · go_loopw [14] (fun i wr => ∃ (k : Nat), k ≤ l.length ∧ i = .int .i64 k ∧ Below w.heap.size w wr ∧ Hid (commitsFrom 0 l = commitsFrom (k : Nat) (l.drop k))) (fun i _ => l.length - (intOf i).toNat)
    case atStart => exact ⟨0, Nat.zero_le _, rfl, Below.refl _ _, rfl⟩
    case round =>
      obtain ⟨k, hk, rfl, hb, hr⟩ := hrel
      by_cases hlt : k < l.length
      · obtain ⟨rs, ps, hck⟩ : ∃ r p, l[k] = (r, p) := ⟨_, _, rfl⟩
        obtain ⟨b, o, a1, c1, a2, c2, hix, _, hbs, h1, h2, z1, z2, z3, z4, hc0, hc1⟩ := (h.call hb).idxCommitAt aCom k k rfl hlt rs ps hck
        go_wp2_with fail
        refine (rowsCheck _ rs _ _ (h1.call ((Below.refl _ _).alloc (Nat.le_refl _) _))).mono ?_; rintro e w1 ⟨_, rfl, rfl, b1⟩
        obtain ⟨q0, q1, bq⟩ := boxed2 b1
        have hb1 := hb.trans (bq.mono hb.size)
        have h2' := h2.call bq
        clear b1
        by_cases hre : rowsErr rs = 0
        · rw [hre]
          go_wp2
          · go_ret
            exact ⟨_, rfl, by rw [commitsErr_few (by omega), hr.out, commitsFrom_stop hlt (by rw [hck, commitErr_form hre (.inl (by omega))]; decide), hck, commitErr_form hre (.inl (by omega))]; rfl, hb1⟩
          · go_loopw [6, 32] (fun last i wr => ∃ (j : Nat) (m : Int), j ≤ ps.length ∧ i = .int .i64 j ∧ last = .int .i64 m ∧ Below w1.heap.size w1 wr ∧ Hid (risePB k (-1) ps = risePB k m (ps.drop j))) (fun _ i _ => ps.length - (intOf i).toNat)
            case atStart => exact ⟨0, -1, Nat.zero_le _, rfl, rfl, Below.refl _ _, rfl⟩
            case round =>
              obtain ⟨j, m, hj, rfl, rfl, hb2, hr2⟩ := hrel
              by_cases hlt2 : j < ps.length
              · obtain ⟨b', o', hix', _, hbs', ok1, hc'⟩ := (h2'.call hb2).idxInt aInt j j rfl hlt2
                go_wp2
                any_goals
                  go_ret
                  have hno : risePB k (-1) ps = false := hr2.out.trans (risePB_stop hlt2 (by omega))
                  exact ⟨_, rfl, by rw [commitsErr_few (by omega), hr.out, commitsFrom_stop hlt (by rw [hck, commitErr_form hre (.inr hno)]; decide), hck, commitErr_form hre (.inr hno)]; rfl, hb1.trans (hb2.mono hb1.size)⟩
                go_roundw
                case rel => exact ⟨j + 1, _, by omega, by go_num, rfl, hb2, hr2.out.trans (risePB_go hlt2 (by omega))⟩
                case measure => simp [intOf]; omega
              · go_wp2
                have hyes := hr2.out.trans (risePB_end hlt2)
                go_roundw
                case rel => exact ⟨k + 1, by omega, by go_num, hb1.trans (hb2.mono hb1.size), hr.out.trans (commitsFrom_go hlt (by rw [hck]; exact commitErr_ok hre (by omega) hyes))⟩
                case measure => simp [intOf]; omega
        · have hre' : (rowsErr rs != 0) = true := by simp [hre]
          go_wp2
          go_ret
          exact ⟨_, rfl, by rw [commitsErr_few (by omega), hr.out, commitsFrom_stop hlt (by rw [hck, commitErr_rows hre]; exact hre), hck, commitErr_rows hre]; rfl, hb1⟩
      · go_wp2
        go_ret
        exact ⟨_, rfl, by rw [commitsErr_few (by omega), hr.out, commitsFrom_end hlt]; rfl, hb⟩
theorem dagCheck_of {c : Int} (v : Value) (l : List Commit) (S : Blk) (w : World) (h : Sl tCommit w S v l) (hc : commitsErr l = c) :
    Calls Tryz.prog 56 #[v] w (Ret w fun r _ => r = .int .i64 c) := hc ▸ dagCheck v l S w h

/-- Of the document's test: two parents rise, and each is in its bounds. -/
theorem risePB_doc (n : Int) {p : List Int} (h : p.length ≤ 2) : risePB n (-1) p = (!(decide (p.length = 2) && decide (p.getD 1 0 ≤ p.getD 0 0)) && p.all fun x => decide (0 ≤ x) && decide (x ≤ n - 1)) := by
  match p, h with
  | [], _ => rfl
  | [a], _ => rw [Bool.eq_iff_iff]; simp [risePB]; omega
  | [a, b], _ => rw [Bool.eq_iff_iff]; simp [risePB]; omega

/-- A parent's bounds. -/
def inB (n : Nat) (x : Int) : Bool := decide (0 ≤ x) && decide (x ≤ (n : Int) - 1)
theorem all_go {f : Int → Bool} {l : List Int} {j : Nat} (hj : j < l.length) (h : f l[j] = true) : (l.drop j).all f = (l.drop (j + 1)).all f := by
  rw [List.drop_eq_getElem_cons hj, List.all_cons, h, Bool.true_and]
theorem all_stop {f : Int → Bool} {l : List Int} {j : Nat} (hj : j < l.length) (h : f l[j] = false) : (l.drop j).all f = false := by
  rw [List.drop_eq_getElem_cons hj, List.all_cons, h, Bool.false_and]
theorem all_end {f : Int → Bool} {l : List Int} {j : Nat} (hj : ¬ j < l.length) : (l.drop j).all f = true := by
  rw [List.drop_of_length_le (by omega)]; rfl
theorem risePB_two {n : Int} {p : List Int} (h : 2 ≤ p.length) (hge : p[1]'(by omega) ≤ p[0]'(by omega)) : risePB n (-1) p = false := by
  match p, h with
  | a :: b :: _, _ =>
    simp at hge
    rw [Bool.eq_false_iff]
    intro g
    rw [risePB_cons, risePB_cons] at g
    omega
theorem risePB_out {n : Nat} {p : List Int} (h : p.all (inB n) = false) : risePB n (-1) p = false := by
  rw [Bool.eq_false_iff] at h ⊢
  intro g
  refine h (List.all_eq_true.2 fun x hx => ?_)
  have := risePB_mem g x hx
  simp [inB]; omega
theorem risePB_in {n : Nat} {p : List Int} (h : p.all (inB n) = true) (h2 : p.length ≤ 2) (h3 : ∀ g : 2 ≤ p.length, p[0] < p[1]) : risePB n (-1) p = true := by
  match p, h2 with
  | [], _ => rfl
  | [a], _ => simp [inB] at h; rw [risePB_cons]; exact ⟨by omega, rfl⟩
  | [a, b], _ => simp [inB] at h; have := h3 (by simp); simp at this; rw [risePB_cons, risePB_cons]; exact ⟨by omega, by omega, rfl⟩

theorem refRowsError_of {c : Int} (v : Value) (l : List Row) (S : Blk) (w : World) (h : Sl tRow w S v l) (hc : rowsErr l = c) :
    Calls Tryz.prog 71 #[v] w (Quiet w (.int .i64 c)) := hc ▸ refRowsError v l S w h

set_option maxHeartbeats 1000000 in
theorem refCommitsError (v : Value) (l : List Commit) (S : Blk) (w : World) (h : Sl tCommit w S v l) :
    Calls Tryz.prog 101 #[v] w (Quiet w (.int .i64 (commitsErr l))) := by
  have hv := h
  obtain ⟨ao, cap, rfl, hcap, hmax, hnil⟩ := h.shape
  unfold maxLen at hmax
  go_enter Tryz.func101, Tryz.ntmps101
  go_wp2
  · go_ret
    exact ⟨by rw [commitsErr_many (by omega)]; rfl, .refl _⟩
  · go_loopw [3] (fun i wr => ∃ (k : Nat), k ≤ l.length ∧ i = .int .i64 k ∧ Drawn w wr ∧ Hid (commitsFrom 0 l = commitsFrom (k : Nat) (l.drop k))) (fun i _ => l.length - (intOf i).toNat)
    case atStart => exact ⟨0, Nat.zero_le _, rfl, .refl _, rfl⟩
    case round =>
      obtain ⟨k, hk, rfl, hd, hr⟩ := hrel
      by_cases hlt : k < l.length
      · obtain ⟨rs, ps, hck⟩ : ∃ r p, l[k] = (r, p) := ⟨_, _, rfl⟩
        obtain ⟨b, o, a1, c1, a2, c2, hix, _, hbs, h1, h2, z1, z2, z3, z4, hc0, hc1⟩ := (hv.call hd.below).idxCommitAt aCom k k rfl hlt rs ps hck
        by_cases hre : rowsErr rs = 0
        · go_wp2_with fail
          refine (refRowsError_of _ rs _ _ h1 hre).mono ?_; rintro e w1 ⟨rfl, n1, rfl⟩
          have hd1 := hd.next n1
          have HF : Hid ((2 < ps.length ∨ risePB k (-1) ps = false) → Ending.returned (Value.int .i64 1) = Ending.returned (.int .i64 (commitsErr l))) := fun hno => by
            rw [commitsErr_few (by omega), hr.out, commitsFrom_stop hlt (by rw [hck, commitErr_form hre hno]; decide), hck, commitErr_form hre hno]
          by_cases hp2 : 2 < ps.length
          · have hg : decide (2 < ps.length) = true := by simp [hp2]
            have hg' : decide ((2 : Int) < ps.length) = true := by simp; omega
            go_wp2_with fail
            go_quiet (fail)
            go_wp2
            go_ret
            exact ⟨HF.out (.inl hp2), (hd1.next _)⟩
          · have hg : decide (2 < ps.length) = false := by simp; omega
            have hg' : decide ((2 : Int) < ps.length) = false := by simp; omega
            by_cases hl2 : ps.length = 2
            · have hq : ((ps.length : Int) == 2) = true := by simp [hl2]
              have hl3 : 2 ≤ ps.length := by omega
              clear hl2
              obtain ⟨b0, o0, hix0, _, hbs0, ok0, hcx0⟩ := h2.idxInt aInt 0 0 rfl (by omega)
              obtain ⟨b1, o1, hix1, _, hbs1, ok1, hcx1⟩ := h2.idxInt aInt 1 1 rfl (by omega)
              by_cases hge : ps[1] ≤ ps[0]
              · have hg3 : decide (ps[1] ≤ ps[0]) = true := by simp [hge]
                go_wp2_with fail
                go_quiet (fail)
                go_wp2
                go_ret
                exact ⟨HF.out (.inr (risePB_two hl3 hge)), hd1.next _⟩
              · have hg3 : decide (ps[1] ≤ ps[0]) = false := by simp; omega
                have HL : Hid (∀ g : 2 ≤ ps.length, ps[0] < ps[1]) := fun _ => by omega
                go_wp2_with fail
                go_quiet (fail)
                go_wp2_with fail
                go_loopw [6] (fun i wr' => ∃ (j : Nat), j ≤ ps.length ∧ i = .int .i64 j ∧ Drawn wr wr' ∧ Hid (ps.all (inB k) = (ps.drop j).all (inB k))) (fun i _ => ps.length - (intOf i).toNat)
                case atStart => exact ⟨0, Nat.zero_le _, rfl, ⟨_, by rw [World.drewN_drewN]⟩, rfl⟩
                case round =>
                  obtain ⟨j, hj, rfl, hd2, hr2⟩ := hrel
                  by_cases hlt2 : j < ps.length
                  · obtain ⟨b', o', hix', _, hbs', ok1, hc'⟩ := (h2.call hd2.below).idxInt aInt j j rfl hlt2
                    cases hin : inB k ps[j] with
                    | true =>
                      go_wp2_with fail
                      refine (refWithin_of ps[j] 0 ((k : Int) - 1) _ hin).mono ?_; rintro e w' ⟨rfl, rfl⟩
                      go_wp2
                      go_roundw
                      case rel => exact ⟨j + 1, by omega, by go_num, hd2, hr2.out.trans (all_go hlt2 hin)⟩
                      case measure => simp [intOf]; omega
                    | false =>
                      go_wp2_with fail
                      refine (refWithin_of ps[j] 0 ((k : Int) - 1) _ hin).mono ?_; rintro e w' ⟨rfl, rfl⟩
                      go_wp2
                      go_ret
                      exact ⟨HF.out (.inr (risePB_out (hr2.out.trans (all_stop hlt2 hin)))), hd.trans hd2⟩
                  · go_wp2
                    have hyes := risePB_in (hr2.out.trans (all_end hlt2)) (by omega) HL.out
                    go_roundw
                    case rel => exact ⟨k + 1, by omega, by go_num, hd.trans hd2, hr.out.trans (commitsFrom_go hlt (by rw [hck]; exact commitErr_ok hre (by omega) hyes))⟩
                    case measure => simp [intOf]; omega
            · have hq : ((ps.length : Int) == 2) = false := by simp; omega
              have HL : Hid (∀ g : 2 ≤ ps.length, ps[0] < ps[1]) := fun _ => by omega
              go_wp2_with fail
              go_quiet (fail)
              go_wp2_with fail
              go_loopw [6] (fun i wr' => ∃ (j : Nat), j ≤ ps.length ∧ i = .int .i64 j ∧ Drawn wr wr' ∧ Hid (ps.all (inB k) = (ps.drop j).all (inB k))) (fun i _ => ps.length - (intOf i).toNat)
              case atStart => exact ⟨0, Nat.zero_le _, rfl, ⟨_, by rw [World.drewN_drewN]⟩, rfl⟩
              case round =>
                obtain ⟨j, hj, rfl, hd2, hr2⟩ := hrel
                by_cases hlt2 : j < ps.length
                · obtain ⟨b', o', hix', _, hbs', ok1, hc'⟩ := (h2.call hd2.below).idxInt aInt j j rfl hlt2
                  cases hin : inB k ps[j] with
                  | true =>
                    go_wp2_with fail
                    refine (refWithin_of ps[j] 0 ((k : Int) - 1) _ hin).mono ?_; rintro e w' ⟨rfl, rfl⟩
                    go_wp2
                    go_roundw
                    case rel => exact ⟨j + 1, by omega, by go_num, hd2, hr2.out.trans (all_go hlt2 hin)⟩
                    case measure => simp [intOf]; omega
                  | false =>
                    go_wp2_with fail
                    refine (refWithin_of ps[j] 0 ((k : Int) - 1) _ hin).mono ?_; rintro e w' ⟨rfl, rfl⟩
                    go_wp2
                    go_ret
                    exact ⟨HF.out (.inr (risePB_out (hr2.out.trans (all_stop hlt2 hin)))), hd.trans hd2⟩
                · go_wp2
                  have hyes := risePB_in (hr2.out.trans (all_end hlt2)) (by omega) HL.out
                  go_roundw
                  case rel => exact ⟨k + 1, by omega, by go_num, hd.trans hd2, hr.out.trans (commitsFrom_go hlt (by rw [hck]; exact commitErr_ok hre (by omega) hyes))⟩
                  case measure => simp [intOf]; omega
        · have hre' : (rowsErr rs != 0) = true := by simp [hre]
          go_wp2_with fail
          refine (refRowsError _ rs _ _ h1).mono ?_; rintro e w1 ⟨rfl, d1⟩
          go_wp2
          go_ret
          exact ⟨by rw [commitsErr_few (by omega), hr.out, commitsFrom_stop hlt (by rw [hck, commitErr_rows hre]; exact hre), hck, commitErr_rows hre]; rfl, hd.trans d1⟩
      · go_wp2
        go_ret
        exact ⟨by rw [commitsErr_few (by omega), hr.out, commitsFrom_end hlt]; rfl, hd⟩

end Go.Pch
end

section
namespace Go.Pch
open Go.RowKit Go.Proofs

/-- I1: a letter. -/
def letB (c : UInt8) : Bool := decide (97 ≤ c.toNat) && decide (c.toNat ≤ 122)
/-- I1: is it a name? -/
def nameB (s : ByteArray) : Bool := (decide (1 ≤ s.size) && decide (s.size ≤ 8)) && s.toList.all letB
/-- A head: its name, and where it is. -/
abbrev Head := ByteArray × Int
/-- Commits, and heads. -/
abbrev Repo := List Commit × List Head
/-- Heads rise behind 'last', and are at commits. -/
def headsRise (n : Nat) : List UInt8 → List Head → Bool
  | _, [] => true
  | last, h :: hs => (Op.bytesLess last h.1.toList && (decide (0 ≤ h.2) && decide (h.2 < n))) && headsRise n h.1.toList hs
/-- I1: Check's answer. -/
def repoErr (r : Repo) : Int :=
  if commitsErr r.1 ≠ 0 then commitsErr r.1 else if 4 < r.2.length then 2 else if (r.2.any fun h => !nameB h.1) = true then 4 else if headsRise r.1.length [] r.2 = true then 0 else 1
/-- Where a head stands. -/
def headK : List Head → ByteArray → Option Nat
  | [], _ => none
  | h :: hs, s => if h.1.toList = s.toList then some 0 else (headK hs s).map (· + 1)
/-- I2: Head's answer. -/
def headP (r : Repo) (s : ByteArray) : Int × Int :=
  if repoErr r = 0 then (match headK r.2 s with
    | some k => ((r.2[k]?.getD (ByteArray.empty, 0)).2, 0)
    | none => (0, 5)) else (0, repoErr r)
/-- I2: Log's answer. -/
def logL (l : List Commit) (n : Nat) : List Int := (((List.range l.length).filter (ab l n)).map Int.ofNat).reverse
def logP (r : Repo) (s : ByteArray) : List Int × Int := if (headP r s).2 = 0 then (logL r.1 (headP r s).1.toNat, 0) else ([], (headP r s).2)

/-! ### Order of names -/
theorem less_iff : ∀ (a b : List UInt8), Op.bytesLess a b = true ↔ a < b
  | [], [] => by simp [Op.bytesLess]
  | _ :: _, [] => by simp [Op.bytesLess]
  | [], _ :: _ => by simp [Op.bytesLess]
  | x :: a, y :: b => by
    rw [Op.bytesLess, List.cons_lt_cons_iff, Bool.or_eq_true, Bool.and_eq_true, decide_eq_true_eq, beq_iff_eq, less_iff a b]
theorem less_trans {a b c : List UInt8} (h : Op.bytesLess a b = true) (g : Op.bytesLess b c = true) : Op.bytesLess a c = true := by
  rw [less_iff] at *
  exact List.lt_trans h g
theorem less_irrefl (a : List UInt8) : Op.bytesLess a a = false := by
  cases h : Op.bytesLess a a with
  | false => rfl
  | true => rw [less_iff] at h; exact absurd h (List.lt_irrefl a)
theorem less_tri {a b : List UInt8} (h : Op.bytesLess a b = false) (hne : a ≠ b) : Op.bytesLess b a = true := by
  rw [less_iff]
  have h1 : ¬ a < b := fun h' => by rw [← less_iff, h] at h'; cases h'
  rcases List.le_iff_lt_or_eq.1 (List.not_lt.1 h1) with h2 | h2
  · exact h2
  · exact absurd h2.symm hne
theorem less_asymm {a b : List UInt8} (h : Op.bytesLess a b = true) : Op.bytesLess b a = false := by
  cases g : Op.bytesLess b a with
  | false => rfl
  | true => have := less_trans h g; rw [less_irrefl] at this; cases this
theorem less_nil {a : List UInt8} (h : a ≠ []) : Op.bytesLess [] a = true := by
  cases a with
  | nil => exact absurd rfl h
  | cons => rfl
theorem not_leq {a b : List UInt8} : (Op.bytesLess a b || a == b) = !Op.bytesLess b a := by
  cases h : Op.bytesLess b a with
  | true =>
    have h1 := less_asymm h
    have h2 : (a == b) = false := by
      rw [beq_eq_false_iff_ne]
      rintro rfl
      rw [less_irrefl] at h; cases h
    rw [h1, h2]; rfl
  | false =>
    by_cases hne : a = b
    · subst hne; simp
    · rw [less_tri h (fun e => hne e.symm)]; rfl

/-- How a head's cells read. -/
def tHead : Ty Head := Ty.flat 2 (by decide) (fun h => [.string h.1, .int .i64 h.2]) (fun h => i64ok h.2 ∧ h.1.size ≤ maxLen) (by intro; rfl) (by intro a u hu; simp at hu; rcases hu with rfl | rfl <;> rfl)
theorem aHead : At Tryz.prog tHead 23 59 := At.mk' Tryz.underlying23 (z := .agg #[.string ByteArray.empty, .int .i64 0]) (size := 2) (bytes := 24) (by kernel_rfl) rfl rfl (by decide)
theorem Sl.idxHeadAt {w : World} {S : Blk} {P : Program} {T e : TypeId} {v : Value} {l : List Head} (h : Sl tHead w S v l) (hA : At P tHead T e) (n : Int) (i : Nat) (x : Head) (hn : n = (i : Int)) (hx : l[i]? = some x) :
    ∃ b o, (∀ W, Sem.run P (Instr.indexAt T v (.int .i64 n)) W = .ok (.pointer (some ⟨b, o, none⟩)) W) ∧ S b ∧ b < w.heap.size ∧ i64ok x.2 ∧ x.1.size ≤ maxLen ∧
      w.cell? ⟨b, o, none⟩ = some (.string x.1) ∧ w.cell? ⟨b, o + 1, none⟩ = some (.int .i64 x.2) := by
  obtain ⟨hi, rfl⟩ := List.getElem?_eq_some_iff.1 hx
  obtain ⟨b, o, cs, h1, h2, h3, ⟨rfl, h5, h6⟩, h7⟩ := h.idx hA n i hn hi
  exact ⟨b, o, h1, h2, h3, h5, h6, by simpa using h7 0 _ rfl, h7 1 _ rfl⟩
/-- A repo's value. -/
def Rp (w : World) (S : Blk) (v : Value) (r : Repo) : Prop := ∃ vc vh, v = .agg #[vc, vh] ∧ Sl tCommit w S vc r.1 ∧ Sl tHead w S vh r.2

end Go.Pch
end

section
namespace Go.Pch
open Go.RowKit Go.Proofs

/-- Bytes. -/
abbrev Bytes := List UInt8
/-- A text of bytes. -/
def bl (l : Bytes) : ByteArray := ⟨l.toArray⟩
theorem bl_data (s : ByteArray) : bl s.data.toList = s := by cases s; simp [bl]
theorem bl_inj {a b : Bytes} (h : bl a = bl b) : a = b := by
  have := congrArg (fun s : ByteArray => s.data.toList) h
  simpa [bl] using this
theorem bl_size (l : Bytes) : (bl l).size = l.length := by simp [bl, ByteArray.size]
/-- A number's lowest byte. -/
def byteOf (n : Int) : UInt8 := UInt8.ofNat (n % 256).toNat
theorem byteOf_nat (n : Int) : ((byteOf n).toNat : Int) = n % 256 := by
  have h0 : 0 ≤ n % 256 := Int.emod_nonneg _ (by decide)
  have h1 : n % 256 < 256 := Int.emod_lt_of_pos _ (by decide)
  unfold byteOf
  rw [UInt8.toNat_ofNat']
  have : (n % 256).toNat % 2 ^ 8 = (n % 256).toNat := Nat.mod_eq_of_lt (by omega)
  rw [this]
  omega
/-- A number as one byte, as two. -/
def enc1 (n : Int) : Bytes := [byteOf n]
def enc2 (n : Int) : Bytes := [byteOf (n / 256), byteOf n]
/-- A number as one byte, or two. -/
def encN (k : Nat) (n : Int) : Bytes := if k = 1 then enc1 n else enc2 n
/-- Has the number no place? -/
def outN (k : Nat) (n : Int) : Bool := decide (n < 0) || decide ((if k = 1 then 256 else 65536) ≤ n)

def tByte : Ty UInt8 := Ty.flat 1 (by decide) (fun c => [.int .u8 (c.toNat : Int)]) (fun _ => True) (by intro; rfl) (by intro a u hu; simp at hu; subst hu; rfl)
theorem aByte : At Tryz.prog tByte 86 5 := At.mk' Tryz.underlying86 (z := .int .u8 0) (size := 1) (bytes := 1) (by kernel_rfl) rfl rfl (by decide)

/-- The world is as it was, but for these blocks; new ones may have come. -/
structure Step (X : Blk) (w w' : World) : Prop where
  os : w'.os = w.os
  tape : w'.tape = w.tape
  output : w'.output = w.output
  size : w.heap.size ≤ w'.heap.size
  block : ∀ k, k < w.heap.size → ¬ X k → w'.heap[k]? = w.heap[k]?
section
variable {X Y : Blk} {a b c : World}
theorem Step.refl (X : Blk) (a : World) : Step X a a := ⟨rfl, rfl, rfl, Nat.le_refl _, fun _ _ _ => rfl⟩
theorem Step.trans (h : Step X a b) (g : Step Y b c) (hY : ∀ k, k < a.heap.size → Y k → X k) : Step X a c :=
  ⟨g.os.trans h.os, g.tape.trans h.tape, g.output.trans h.output, Nat.le_trans h.size g.size, fun k hk hn => (g.block k (Nat.lt_of_lt_of_le hk h.size) fun hy => hn (hY k hk hy)).trans (h.block k hk hn)⟩
theorem Step.on (h : Step X a b) (g : Step X b c) : Step X a c := h.trans g fun _ _ h => h
theorem Step.of_below (h : Below a.heap.size a b) : Step X a b := ⟨h.os, h.tape, h.output, h.size, fun k hk _ => h.block k hk⟩
theorem Step.below {B : Nat} (h : Step X a b) (hX : ∀ k, X k → B ≤ k) (hB : B ≤ a.heap.size) : Below B a b :=
  ⟨h.os, h.tape, h.output, h.size, fun k hk => h.block k (by omega) fun hx => by have := hX k hx; omega⟩
theorem Step.setCell (p : Addr) (u : Value) (h : X p.block) : Step X a (a.setCell p u) :=
  ⟨rfl, rfl, rfl, by simp [World.setCell], fun k _ hn => Below.heap_setCell _ _ _ _ fun e => hn (e ▸ h)⟩
theorem Step.grown {row : Option Nat} (hg : a.grownBy b row) (hX : ∀ k, row = some k → X k) : Step X a b :=
  ⟨hg.os, hg.tape, hg.output, hg.size, fun k hk hn => hg.block k hk fun e => hn (hX k e.symm)⟩
theorem Step.mono (h : Step X a b) (hX : ∀ k, k < a.heap.size → X k → Y k) : Step Y a b := ⟨h.os, h.tape, h.output, h.size, fun k hk hn => h.block k hk fun hx => hn (hX k hk hx)⟩
theorem Step.cell (h : Step X a b) {p : Addr} (hp : p.block < a.heap.size) (hx : ¬ X p.block) : b.cell? p = a.cell? p := World.cell?_of_block (w := a) (h.block p.block hp hx)
end
theorem Sl.step {α : Type} {E : Ty α} {w w' : World} {S X : Blk} {v : Value} {l : List α} (h : Sl E w S v l) (hs : Step X w w') (hS : ∀ k, S k → ¬ X k) : Sl E w' S v l := h.keep fun k hk hlt => hs.block k hlt (hS k hk)

/-- The block that a pen's bytes lie in, and the pen's own. -/
def penX (pb : Nat) (v : Value) : Blk := fun k => k = pb ∨ v.ownBlock = some k
/-- A pen lies in block pb, its bytes are a slice of its own. -/
structure PenAt (w : World) (B pb : Nat) (v : Value) (bs : Bytes) (bad : Bool) : Prop where
  low : B ≤ pb
  lt : pb < w.heap.size
  row : w.heap[pb]? = some (.cells #[v, .bool bad] 88)
  own : Own tByte 5 w B (fun _ => False) v bs
theorem PenAt.apart {w : World} {B pb : Nat} {v : Value} {bs : Bytes} {bad : Bool} (h : PenAt w B pb v bs bad) : v.ownBlock ≠ some pb := by
  intro e
  obtain ⟨xs, hr, _⟩ := h.own
  rcases hr.2 with ⟨rfl, _⟩ | ⟨g, cap, cur, rfl, _, hg, _⟩
  · simp [Value.ownBlock] at e
  · simp [Value.ownBlock] at e
    subst e
    rw [h.row] at hg
    simp at hg
theorem PenAt.cell0 {w : World} {B pb : Nat} {v : Value} {bs : Bytes} {bad : Bool} (h : PenAt w B pb v bs bad) : w.cell? ⟨pb, 0, none⟩ = some v := by rw [World.cell?, h.row]; rfl
theorem PenAt.cell1 {w : World} {B pb : Nat} {v : Value} {bs : Bytes} {bad : Bool} (h : PenAt w B pb v bs bad) : w.cell? ⟨pb, 1, none⟩ = some (.bool bad) := by rw [World.cell?, h.row]; rfl
theorem PenAt.free {w : World} {B pb : Nat} {v : Value} {bs : Bytes} {bad : Bool} (h : PenAt w B pb v bs bad) (i : Nat) : w.frozen? ⟨pb, i, none⟩ = false := frozen_of_row w pb i _ _ h.row
theorem PenAt.setBad {w : World} {B pb : Nat} {v : Value} {bs : Bytes} {bad : Bool} (h : PenAt w B pb v bs bad) (b : Bool) : PenAt (w.setCell ⟨pb, 1, none⟩ (.bool b)) B pb v bs b :=
  ⟨h.low, by simpa [World.setCell] using h.lt, heap_setCell_same w pb 1 _ _ (.bool b) h.row, h.own.keep fun k hk _ => heap_setCell_other _ _ _ _ (by
    rcases hk with hk | hk
    · exact hk.elim
    · intro e; exact h.apart (by rw [hk, e]))⟩
theorem PenAt.setB {w w' : World} {B pb : Nat} {v v' : Value} {bs bs' : Bytes} {bad : Bool} (h : PenAt w B pb v bs bad) (ho : Own tByte 5 w' B (fun _ => False) v' bs') (hg : w.grownBy w' v.ownBlock) : PenAt (w'.setCell ⟨pb, 0, none⟩ v') B pb v' bs' bad := by
  have hrow : w'.heap[pb]? = some (.cells #[v, .bool bad] 88) := (hg.block pb h.lt fun e => h.apart e.symm).trans h.row
  have hlt : pb < w'.heap.size := Nat.lt_of_lt_of_le h.lt hg.size
  have hap : v'.ownBlock ≠ some pb := by
    intro e
    obtain ⟨xs, hr, _⟩ := ho
    rcases hr.2 with ⟨rfl, _⟩ | ⟨g, cap, cur, rfl, _, hg', _⟩
    · simp [Value.ownBlock] at e
    · simp [Value.ownBlock] at e
      subst e
      rw [hrow] at hg'
      simp at hg'
  exact ⟨h.low, by simpa [World.setCell] using hlt, heap_setCell_same w' pb 0 _ _ v' hrow, ho.keep fun k hk _ => heap_setCell_other _ _ _ _ (by
    rcases hk with hk | hk
    · exact hk.elim
    · intro e; exact hap (by rw [hk, e]))⟩
theorem PenAt.step {w w' : World} {B pb : Nat} {v : Value} {bs : Bytes} {bad : Bool} {X : Blk} (h : PenAt w B pb v bs bad) (hs : Step X w w') (hX : ∀ k, X k → ¬ penX pb v k) : PenAt w' B pb v bs bad :=
  ⟨h.low, Nat.lt_of_lt_of_le h.lt hs.size, (hs.block pb h.lt fun hx => hX _ hx (.inl rfl)).trans h.row, h.own.keep fun k hk hlt => hs.block k hlt fun hx => hX _ hx (by
    rcases hk with hk | hk
    · exact hk.elim
    · exact .inr hk)⟩
theorem PenAt.call {w w' : World} {B pb : Nat} {v : Value} {bs : Bytes} {bad : Bool} (h : PenAt w B pb v bs bad) (hb : Below w.heap.size w w') : PenAt w' B pb v bs bad :=
  h.step (Step.of_below (X := fun _ => False) hb) (fun _ h => h.elim)
/-- What a pen does: its own blocks turn, and new ones come; its bytes' block is as before or new. -/
def PenOn (pb : Nat) (v v' : Value) (w w' : World) : Prop := Step (penX pb v) w w' ∧ ∀ g, v'.ownBlock = some g → v.ownBlock = some g ∨ w.heap.size ≤ g
theorem PenOn.refl (pb : Nat) (v : Value) (w : World) : PenOn pb v v w w := ⟨Step.refl _ _, fun _ h => .inl h⟩
theorem PenOn.trans {pb : Nat} {v v' v'' : Value} {w w' w'' : World} (h : PenOn pb v v' w w') (g : PenOn pb v' v'' w' w'') : PenOn pb v v'' w w'' := by
  refine ⟨h.1.trans g.1 fun k hk hx => ?_, fun k hk => ?_⟩
  · rcases hx with hx | hx
    · exact .inl hx
    · rcases h.2 k hx with h' | h'
      · exact .inr h'
      · omega
  · rcases g.2 k hk with h' | h'
    · exact h.2 k h'
    · exact .inr (Nat.le_trans h.1.size h')
theorem PenOn.setBad {pb : Nat} {v v' : Value} {w w' : World} (h : PenOn pb v v' w w') (u : Value) : PenOn pb v v' w (w'.setCell ⟨pb, 1, none⟩ u) :=
  ⟨h.1.on (Step.setCell _ _ (.inl rfl)), h.2⟩
theorem PenOn.setB {pb : Nat} {v v' v'' : Value} {w w' w'' : World} (h : PenOn pb v v' w w') (hg : w'.grownBy w'' v'.ownBlock) (hn : ∀ g, v''.ownBlock = some g → v'.ownBlock = some g ∨ w'.heap.size ≤ g) (u : Value) : PenOn pb v v'' w (w''.setCell ⟨pb, 0, none⟩ u) := by
  refine h.trans ⟨(Step.grown hg fun k hk => .inr hk).on (Step.setCell _ _ (.inl rfl)), hn⟩

end Go.Pch
end
