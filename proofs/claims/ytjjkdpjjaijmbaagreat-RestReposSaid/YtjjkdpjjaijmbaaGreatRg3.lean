/- The walks of package dag: checks. Chapter 9: names, heads, repos: plain words, and how their cells read. Worlds in which cells were overwritten by cells of their own kind; where an element lies that may be written. -/
import Derived.Test.YtjjkdpjjaijmbaaGreatRg2
import Derived.Test.YtjjkdpjjaijmbaaGreatRg1
section
namespace Go.Pch
open Go.RowKit Go.Proofs

theorem aInt : At Tryz.prog tInt 40 3 := At.mk' Tryz.underlying40 (z := .int .i64 0) (size := 1) (bytes := 8) (by kernel_rfl) rfl rfl (by decide)
theorem aCom : At Tryz.prog tCommit 22 42 := At.mk' Tryz.underlying22 (z := .agg #[.slice none 0 0, .slice none 0 0]) (size := 2) (bytes := 48) (by kernel_rfl) rfl rfl (by decide)

theorem commitsErr_many {l : List Commit} (h : 14 < l.length) : commitsErr l = 2 := by rw [commitsErr, if_pos h]
theorem commitsErr_few {l : List Commit} (h : ¬ 14 < l.length) : commitsErr l = commitsFrom 0 l := by rw [commitsErr, if_neg h]
theorem commitErr_rows {n : Int} {r : List Row} {p : List Int} (h : rowsErr r ≠ 0) : commitErr n (r, p) = rowsErr r := by rw [commitErr, if_pos h]
theorem commitErr_form {n : Int} {r : List Row} {p : List Int} (h : rowsErr r = 0) (h2 : 2 < p.length ∨ risePB n (-1) p = false) : commitErr n (r, p) = 1 := by
  rw [commitErr, if_neg (by simpa using h), if_neg]
  rcases h2 with h2 | h2
  · simp; omega
  · simp [h2]
theorem commitErr_ok {n : Int} {r : List Row} {p : List Int} (h : rowsErr r = 0) (h2 : p.length ≤ 2) (h3 : risePB n (-1) p = true) : commitErr n (r, p) = 0 := by
  rw [commitErr, if_neg (by simpa using h), if_pos]
  simp [h2, h3]

set_option maxHeartbeats 1000000 in
theorem dagCheck (v : Value) (l : List Commit) (S : Blk) (w : World) (h : Sl tCommit w S v l) :
    Calls Tryz.prog 109 #[v] w (Ret w fun r _ => r = .int .i64 (commitsErr l)) := by
  obtain ⟨ao, cap, rfl, hcap, hmax, hnil⟩ := h.shape
  unfold maxLen at hmax
  go_enter Tryz.func109, Tryz.ntmps109
  go_wp2
  · go_ret
    exact ⟨_, rfl, by rw [commitsErr_many (by omega)]; rfl, Below.refl _ _⟩
  · go_loopw [14] (fun i wr => ∃ (k : Nat), k ≤ l.length ∧ i = .int .i64 k ∧ Below w.heap.size w wr ∧ Hid (commitsFrom 0 l = commitsFrom (k : Nat) (l.drop k))) (fun i _ => l.length - (intOf i).toNat)
    case atStart => exact ⟨0, Nat.zero_le _, rfl, Below.refl _ _, rfl⟩
    case round =>
      obtain ⟨k, hk, rfl, hb, hr⟩ := hrel
      by_cases hlt : k < l.length
      · obtain ⟨rs, ps, hck⟩ : ∃ r p, l[k] = (r, p) := ⟨_, _, rfl⟩
        obtain ⟨b, o, a1, c1, a2, c2, hix, _, hbs, h1, h2, z1, z2, z3, z4, hc0, hc1⟩ := (h.call hb).idxCommitAt aCom k k rfl hlt rs ps hck
        go_wp2_with fail
        refine (rowsCheck _ rs _ _ (h1.call ((Below.refl _ _).alloc (Nat.le_refl _) _))).mono ?_; rintro e w1 ⟨_, rfl, rfl, b1⟩
        obtain ⟨q0, q1, bq⟩ := boxed2 b1
        have hb1 := hb.trans (bq.mono hb.size)
        have h2' := h2.call bq
        clear b1
        by_cases hre : rowsErr rs = 0
        · rw [hre]
          go_wp2
          · go_ret
            exact ⟨_, rfl, by rw [commitsErr_few (by omega), hr.out, commitsFrom_stop hlt (by rw [hck, commitErr_form hre (.inl (by omega))]; decide), hck, commitErr_form hre (.inl (by omega))]; rfl, hb1⟩
          · go_loopw [6, 32] (fun last i wr => ∃ (j : Nat) (m : Int), j ≤ ps.length ∧ i = .int .i64 j ∧ last = .int .i64 m ∧ Below w1.heap.size w1 wr ∧ Hid (risePB k (-1) ps = risePB k m (ps.drop j))) (fun _ i _ => ps.length - (intOf i).toNat)
            case atStart => exact ⟨0, -1, Nat.zero_le _, rfl, rfl, Below.refl _ _, rfl⟩
            case round =>
              obtain ⟨j, m, hj, rfl, rfl, hb2, hr2⟩ := hrel
              by_cases hlt2 : j < ps.length
              · obtain ⟨b', o', hix', _, hbs', ok1, hc'⟩ := (h2'.call hb2).idxInt aInt j j rfl hlt2
                go_wp2
                any_goals
                  go_ret
                  have hno : risePB k (-1) ps = false := hr2.out.trans (risePB_stop hlt2 (by omega))
                  exact ⟨_, rfl, by rw [commitsErr_few (by omega), hr.out, commitsFrom_stop hlt (by rw [hck, commitErr_form hre (.inr hno)]; decide), hck, commitErr_form hre (.inr hno)]; rfl, hb1.trans (hb2.mono hb1.size)⟩
                go_roundw
                case rel => exact ⟨j + 1, _, by omega, by go_num, rfl, hb2, hr2.out.trans (risePB_go hlt2 (by omega))⟩
                case measure => simp [intOf]; omega
              · go_wp2
                have hyes := hr2.out.trans (risePB_end hlt2)
                go_roundw
                case rel => exact ⟨k + 1, by omega, by go_num, hb1.trans (hb2.mono hb1.size), hr.out.trans (commitsFrom_go hlt (by rw [hck]; exact commitErr_ok hre (by omega) hyes))⟩
                case measure => simp [intOf]; omega
        · have hre' : (rowsErr rs != 0) = true := by simp [hre]
          go_wp2
          go_ret
          exact ⟨_, rfl, by rw [commitsErr_few (by omega), hr.out, commitsFrom_stop hlt (by rw [hck, commitErr_rows hre]; exact hre), hck, commitErr_rows hre]; rfl, hb1⟩
      · go_wp2
        go_ret
        exact ⟨_, rfl, by rw [commitsErr_few (by omega), hr.out, commitsFrom_end hlt]; rfl, hb⟩
theorem dagCheck_of {c : Int} (v : Value) (l : List Commit) (S : Blk) (w : World) (h : Sl tCommit w S v l) (hc : commitsErr l = c) :
    Calls Tryz.prog 109 #[v] w (Ret w fun r _ => r = .int .i64 c) := hc ▸ dagCheck v l S w h

/-- Of the document's test: two parents rise, and each is in its bounds. -/
theorem risePB_doc (n : Int) {p : List Int} (h : p.length ≤ 2) : risePB n (-1) p = (!(decide (p.length = 2) && decide (p.getD 1 0 ≤ p.getD 0 0)) && p.all fun x => decide (0 ≤ x) && decide (x ≤ n - 1)) := by
  match p, h with
  | [], _ => rfl
  | [a], _ => rw [Bool.eq_iff_iff]; simp [risePB]; omega
  | [a, b], _ => rw [Bool.eq_iff_iff]; simp [risePB]; omega

/-- A parent's bounds. -/
def inB (n : Nat) (x : Int) : Bool := decide (0 ≤ x) && decide (x ≤ (n : Int) - 1)
theorem all_go {f : Int → Bool} {l : List Int} {j : Nat} (hj : j < l.length) (h : f l[j] = true) : (l.drop j).all f = (l.drop (j + 1)).all f := by
  rw [List.drop_eq_getElem_cons hj, List.all_cons, h, Bool.true_and]
theorem all_stop {f : Int → Bool} {l : List Int} {j : Nat} (hj : j < l.length) (h : f l[j] = false) : (l.drop j).all f = false := by
  rw [List.drop_eq_getElem_cons hj, List.all_cons, h, Bool.false_and]
theorem all_end {f : Int → Bool} {l : List Int} {j : Nat} (hj : ¬ j < l.length) : (l.drop j).all f = true := by
  rw [List.drop_of_length_le (by omega)]; rfl
theorem risePB_two {n : Int} {p : List Int} (h : 2 ≤ p.length) (hge : p[1]'(by omega) ≤ p[0]'(by omega)) : risePB n (-1) p = false := by
  match p, h with
  | a :: b :: _, _ =>
    simp at hge
    rw [Bool.eq_false_iff]
    intro g
    rw [risePB_cons, risePB_cons] at g
    omega
theorem risePB_out {n : Nat} {p : List Int} (h : p.all (inB n) = false) : risePB n (-1) p = false := by
  rw [Bool.eq_false_iff] at h ⊢
  intro g
  refine h (List.all_eq_true.2 fun x hx => ?_)
  have := risePB_mem g x hx
  simp [inB]; omega
theorem risePB_in {n : Nat} {p : List Int} (h : p.all (inB n) = true) (h2 : p.length ≤ 2) (h3 : ∀ g : 2 ≤ p.length, p[0] < p[1]) : risePB n (-1) p = true := by
  match p, h2 with
  | [], _ => rfl
  | [a], _ => simp [inB] at h; rw [risePB_cons]; exact ⟨by omega, rfl⟩
  | [a, b], _ => simp [inB] at h; have := h3 (by simp); simp at this; rw [risePB_cons, risePB_cons]; exact ⟨by omega, by omega, rfl⟩

theorem refRowsError_of {c : Int} (v : Value) (l : List Row) (S : Blk) (w : World) (h : Sl tRow w S v l) (hc : rowsErr l = c) :
    Calls Tryz.prog 5 #[v] w (Quiet w (.int .i64 c)) := hc ▸ refRowsError v l S w h

set_option maxHeartbeats 1000000 in
theorem refCommitsError (v : Value) (l : List Commit) (S : Blk) (w : World) (h : Sl tCommit w S v l) :
    Calls Tryz.prog 15 #[v] w (Quiet w (.int .i64 (commitsErr l))) := by
  have hv := h
  obtain ⟨ao, cap, rfl, hcap, hmax, hnil⟩ := h.shape
  unfold maxLen at hmax
  go_enter Tryz.func15, Tryz.ntmps15
  go_wp2
  · go_ret
    exact ⟨by rw [commitsErr_many (by omega)]; rfl, .refl _⟩
  · go_loopw [3] (fun i wr => ∃ (k : Nat), k ≤ l.length ∧ i = .int .i64 k ∧ Drawn w wr ∧ Hid (commitsFrom 0 l = commitsFrom (k : Nat) (l.drop k))) (fun i _ => l.length - (intOf i).toNat)
    case atStart => exact ⟨0, Nat.zero_le _, rfl, .refl _, rfl⟩
    case round =>
      obtain ⟨k, hk, rfl, hd, hr⟩ := hrel
      by_cases hlt : k < l.length
      · obtain ⟨rs, ps, hck⟩ : ∃ r p, l[k] = (r, p) := ⟨_, _, rfl⟩
        obtain ⟨b, o, a1, c1, a2, c2, hix, _, hbs, h1, h2, z1, z2, z3, z4, hc0, hc1⟩ := (hv.call hd.below).idxCommitAt aCom k k rfl hlt rs ps hck
        by_cases hre : rowsErr rs = 0
        · go_wp2_with fail
          refine (refRowsError_of _ rs _ _ h1 hre).mono ?_; rintro e w1 ⟨rfl, n1, rfl⟩
          have hd1 := hd.next n1
          have HF : Hid ((2 < ps.length ∨ risePB k (-1) ps = false) → Ending.returned (Value.int .i64 1) = Ending.returned (.int .i64 (commitsErr l))) := fun hno => by
            rw [commitsErr_few (by omega), hr.out, commitsFrom_stop hlt (by rw [hck, commitErr_form hre hno]; decide), hck, commitErr_form hre hno]
          by_cases hp2 : 2 < ps.length
          · have hg : decide (2 < ps.length) = true := by simp [hp2]
            have hg' : decide ((2 : Int) < ps.length) = true := by simp; omega
            go_wp2_with fail
            go_quiet (fail)
            go_wp2
            go_ret
            exact ⟨HF.out (.inl hp2), (hd1.next _)⟩
          · have hg : decide (2 < ps.length) = false := by simp; omega
            have hg' : decide ((2 : Int) < ps.length) = false := by simp; omega
            by_cases hl2 : ps.length = 2
            · have hq : ((ps.length : Int) == 2) = true := by simp [hl2]
              have hl3 : 2 ≤ ps.length := by omega
              clear hl2
              obtain ⟨b0, o0, hix0, _, hbs0, ok0, hcx0⟩ := h2.idxInt aInt 0 0 rfl (by omega)
              obtain ⟨b1, o1, hix1, _, hbs1, ok1, hcx1⟩ := h2.idxInt aInt 1 1 rfl (by omega)
              by_cases hge : ps[1] ≤ ps[0]
              · have hg3 : decide (ps[1] ≤ ps[0]) = true := by simp [hge]
                go_wp2_with fail
                go_quiet (fail)
                go_wp2
                go_ret
                exact ⟨HF.out (.inr (risePB_two hl3 hge)), hd1.next _⟩
              · have hg3 : decide (ps[1] ≤ ps[0]) = false := by simp; omega
                have HL : Hid (∀ g : 2 ≤ ps.length, ps[0] < ps[1]) := fun _ => by omega
                go_wp2_with fail
                go_quiet (fail)
                go_wp2_with fail
                go_loopw [6] (fun i wr' => ∃ (j : Nat), j ≤ ps.length ∧ i = .int .i64 j ∧ Drawn wr wr' ∧ Hid (ps.all (inB k) = (ps.drop j).all (inB k))) (fun i _ => ps.length - (intOf i).toNat)
                case atStart => exact ⟨0, Nat.zero_le _, rfl, ⟨_, by rw [World.drewN_drewN]⟩, rfl⟩
                case round =>
                  obtain ⟨j, hj, rfl, hd2, hr2⟩ := hrel
                  by_cases hlt2 : j < ps.length
                  · obtain ⟨b', o', hix', _, hbs', ok1, hc'⟩ := (h2.call hd2.below).idxInt aInt j j rfl hlt2
                    cases hin : inB k ps[j] with
                    | true =>
                      go_wp2_with fail
                      refine (refWithin_of ps[j] 0 ((k : Int) - 1) _ hin).mono ?_; rintro e w' ⟨rfl, rfl⟩
                      go_wp2
                      go_roundw
                      case rel => exact ⟨j + 1, by omega, by go_num, hd2, hr2.out.trans (all_go hlt2 hin)⟩
                      case measure => simp [intOf]; omega
                    | false =>
                      go_wp2_with fail
                      refine (refWithin_of ps[j] 0 ((k : Int) - 1) _ hin).mono ?_; rintro e w' ⟨rfl, rfl⟩
                      go_wp2
                      go_ret
                      exact ⟨HF.out (.inr (risePB_out (hr2.out.trans (all_stop hlt2 hin)))), hd.trans hd2⟩
                  · go_wp2
                    have hyes := risePB_in (hr2.out.trans (all_end hlt2)) (by omega) HL.out
                    go_roundw
                    case rel => exact ⟨k + 1, by omega, by go_num, hd.trans hd2, hr.out.trans (commitsFrom_go hlt (by rw [hck]; exact commitErr_ok hre (by omega) hyes))⟩
                    case measure => simp [intOf]; omega
            · have hq : ((ps.length : Int) == 2) = false := by simp; omega
              have HL : Hid (∀ g : 2 ≤ ps.length, ps[0] < ps[1]) := fun _ => by omega
              go_wp2_with fail
              go_quiet (fail)
              go_wp2_with fail
              go_loopw [6] (fun i wr' => ∃ (j : Nat), j ≤ ps.length ∧ i = .int .i64 j ∧ Drawn wr wr' ∧ Hid (ps.all (inB k) = (ps.drop j).all (inB k))) (fun i _ => ps.length - (intOf i).toNat)
              case atStart => exact ⟨0, Nat.zero_le _, rfl, ⟨_, by rw [World.drewN_drewN]⟩, rfl⟩
              case round =>
                obtain ⟨j, hj, rfl, hd2, hr2⟩ := hrel
                by_cases hlt2 : j < ps.length
                · obtain ⟨b', o', hix', _, hbs', ok1, hc'⟩ := (h2.call hd2.below).idxInt aInt j j rfl hlt2
                  cases hin : inB k ps[j] with
                  | true =>
                    go_wp2_with fail
                    refine (refWithin_of ps[j] 0 ((k : Int) - 1) _ hin).mono ?_; rintro e w' ⟨rfl, rfl⟩
                    go_wp2
                    go_roundw
                    case rel => exact ⟨j + 1, by omega, by go_num, hd2, hr2.out.trans (all_go hlt2 hin)⟩
                    case measure => simp [intOf]; omega
                  | false =>
                    go_wp2_with fail
                    refine (refWithin_of ps[j] 0 ((k : Int) - 1) _ hin).mono ?_; rintro e w' ⟨rfl, rfl⟩
                    go_wp2
                    go_ret
                    exact ⟨HF.out (.inr (risePB_out (hr2.out.trans (all_stop hlt2 hin)))), hd.trans hd2⟩
                · go_wp2
                  have hyes := risePB_in (hr2.out.trans (all_end hlt2)) (by omega) HL.out
                  go_roundw
                  case rel => exact ⟨k + 1, by omega, by go_num, hd.trans hd2, hr.out.trans (commitsFrom_go hlt (by rw [hck]; exact commitErr_ok hre (by omega) hyes))⟩
                  case measure => simp [intOf]; omega
        · have hre' : (rowsErr rs != 0) = true := by simp [hre]
          go_wp2_with fail
          refine (refRowsError _ rs _ _ h1).mono ?_; rintro e w1 ⟨rfl, d1⟩
          go_wp2
          go_ret
          exact ⟨by rw [commitsErr_few (by omega), hr.out, commitsFrom_stop hlt (by rw [hck, commitErr_rows hre]; exact hre), hck, commitErr_rows hre]; rfl, hd.trans d1⟩
      · go_wp2
        go_ret
        exact ⟨by rw [commitsErr_few (by omega), hr.out, commitsFrom_end hlt]; rfl, hd⟩

end Go.Pch
end

section
namespace Go.Pch
open Go.RowKit Go.Proofs

/-- I1: a letter. -/
def letB (c : UInt8) : Bool := decide (97 ≤ c.toNat) && decide (c.toNat ≤ 122)
/-- I1: is it a name? -/
def nameB (s : ByteArray) : Bool := (decide (1 ≤ s.size) && decide (s.size ≤ 8)) && s.toList.all letB
/-- A head: its name, and where it is. -/
abbrev Head := ByteArray × Int
/-- Commits, and heads. -/
abbrev Repo := List Commit × List Head
/-- Heads rise behind 'last', and are at commits. -/
def headsRise (n : Nat) : List UInt8 → List Head → Bool
  | _, [] => true
  | last, h :: hs => (Op.bytesLess last h.1.toList && (decide (0 ≤ h.2) && decide (h.2 < n))) && headsRise n h.1.toList hs
/-- I1: Check's answer. -/
def repoErr (r : Repo) : Int :=
  if commitsErr r.1 ≠ 0 then commitsErr r.1 else if 4 < r.2.length then 2 else if (r.2.any fun h => !nameB h.1) = true then 4 else if headsRise r.1.length [] r.2 = true then 0 else 1
/-- Where a head stands. -/
def headK : List Head → ByteArray → Option Nat
  | [], _ => none
  | h :: hs, s => if h.1.toList = s.toList then some 0 else (headK hs s).map (· + 1)
/-- I2: Head's answer. -/
def headP (r : Repo) (s : ByteArray) : Int × Int :=
  if repoErr r = 0 then (match headK r.2 s with
    | some k => ((r.2[k]?.getD (ByteArray.empty, 0)).2, 0)
    | none => (0, 5)) else (0, repoErr r)
/-- I2: Log's answer. -/
def logL (l : List Commit) (n : Nat) : List Int := (((List.range l.length).filter (ab l n)).map Int.ofNat).reverse
def logP (r : Repo) (s : ByteArray) : List Int × Int := if (headP r s).2 = 0 then (logL r.1 (headP r s).1.toNat, 0) else ([], (headP r s).2)

/-! ### Order of names -/
theorem less_iff : ∀ (a b : List UInt8), Op.bytesLess a b = true ↔ a < b
  | [], [] => by simp [Op.bytesLess]
  | _ :: _, [] => by simp [Op.bytesLess]
  | [], _ :: _ => by simp [Op.bytesLess]
  | x :: a, y :: b => by
    rw [Op.bytesLess, List.cons_lt_cons_iff, Bool.or_eq_true, Bool.and_eq_true, decide_eq_true_eq, beq_iff_eq, less_iff a b]
theorem less_trans {a b c : List UInt8} (h : Op.bytesLess a b = true) (g : Op.bytesLess b c = true) : Op.bytesLess a c = true := by
  rw [less_iff] at *
  exact List.lt_trans h g
theorem less_irrefl (a : List UInt8) : Op.bytesLess a a = false := by
  cases h : Op.bytesLess a a with
  | false => rfl
  | true => rw [less_iff] at h; exact absurd h (List.lt_irrefl a)
theorem less_tri {a b : List UInt8} (h : Op.bytesLess a b = false) (hne : a ≠ b) : Op.bytesLess b a = true := by
  rw [less_iff]
  have h1 : ¬ a < b := fun h' => by rw [← less_iff, h] at h'; cases h'
  rcases List.le_iff_lt_or_eq.1 (List.not_lt.1 h1) with h2 | h2
  · exact h2
  · exact absurd h2.symm hne
theorem less_asymm {a b : List UInt8} (h : Op.bytesLess a b = true) : Op.bytesLess b a = false := by
  cases g : Op.bytesLess b a with
  | false => rfl
  | true => have := less_trans h g; rw [less_irrefl] at this; cases this
theorem less_nil {a : List UInt8} (h : a ≠ []) : Op.bytesLess [] a = true := by
  cases a with
  | nil => exact absurd rfl h
  | cons => rfl
theorem not_leq {a b : List UInt8} : (Op.bytesLess a b || a == b) = !Op.bytesLess b a := by
  cases h : Op.bytesLess b a with
  | true =>
    have h1 := less_asymm h
    have h2 : (a == b) = false := by
      rw [beq_eq_false_iff_ne]
      rintro rfl
      rw [less_irrefl] at h; cases h
    rw [h1, h2]; rfl
  | false =>
    by_cases hne : a = b
    · subst hne; simp
    · rw [less_tri h (fun e => hne e.symm)]; rfl

/-- How a head's cells read. -/
def tHead : Ty Head := Ty.flat 2 (by decide) (fun h => [.string h.1, .int .i64 h.2]) (fun h => i64ok h.2 ∧ h.1.size ≤ maxLen) (by intro; rfl) (by intro a u hu; simp at hu; rcases hu with rfl | rfl <;> rfl)
theorem aHead : At Tryz.prog tHead 23 46 := At.mk' Tryz.underlying23 (z := .agg #[.string ByteArray.empty, .int .i64 0]) (size := 2) (bytes := 24) (by kernel_rfl) rfl rfl (by decide)
theorem Sl.idxHeadAt {w : World} {S : Blk} {P : Program} {T e : TypeId} {v : Value} {l : List Head} (h : Sl tHead w S v l) (hA : At P tHead T e) (n : Int) (i : Nat) (x : Head) (hn : n = (i : Int)) (hx : l[i]? = some x) :
    ∃ b o, (∀ W, Sem.run P (Instr.indexAt T v (.int .i64 n)) W = .ok (.pointer (some ⟨b, o, none⟩)) W) ∧ S b ∧ b < w.heap.size ∧ i64ok x.2 ∧ x.1.size ≤ maxLen ∧
      w.cell? ⟨b, o, none⟩ = some (.string x.1) ∧ w.cell? ⟨b, o + 1, none⟩ = some (.int .i64 x.2) := by
  obtain ⟨hi, rfl⟩ := List.getElem?_eq_some_iff.1 hx
  obtain ⟨b, o, cs, h1, h2, h3, ⟨rfl, h5, h6⟩, h7⟩ := h.idx hA n i hn hi
  exact ⟨b, o, h1, h2, h3, h5, h6, by simpa using h7 0 _ rfl, h7 1 _ rfl⟩
/-- A repo's value. -/
def Rp (w : World) (S : Blk) (v : Value) (r : Repo) : Prop := ∃ vc vh, v = .agg #[vc, vh] ∧ Sl tCommit w S vc r.1 ∧ Sl tHead w S vh r.2

end Go.Pch
end

section
namespace Go.Pch
open Go.RowKit

/-- w is wS, but for cells of the blocks from B to C that hold others of their kind; slices stand where X does not hold. -/
structure Kin (wS w : World) (B C : Nat) (X : Addr → Prop) : Prop where
  size : w.heap.size = wS.heap.size
  low : Below B wS w
  high : ∀ k, C ≤ k → w.heap[k]? = wS.heap[k]?
  free : ∀ a, w.frozen? a = wS.frozen? a
  ints : ∀ a k n, wS.cell? a = some (.int k n) → ∃ m, w.cell? a = some (.int k m)
  strs : ∀ a s, wS.cell? a = some (.string s) → ∃ t, w.cell? a = some (.string t)
  slices : ∀ a x n c, wS.cell? a = some (.slice x n c) → (¬ X a → w.cell? a = some (.slice x n c)) ∧ ∃ x' n' c', w.cell? a = some (.slice x' n' c')

section
variable {wS w : World} {B C : Nat} {X Y : Addr → Prop} {a : Addr}
theorem Kin.refl (w : World) (B C : Nat) (X : Addr → Prop) : Kin w w B C X :=
  ⟨rfl, Below.refl _ _, fun _ _ => rfl, fun _ => rfl, fun _ _ n h => ⟨n, h⟩, fun _ s h => ⟨s, h⟩, fun _ x n c h => ⟨fun _ => h, x, n, c, h⟩⟩
theorem Kin.mono (h : Kin wS w B C X) (hX : ∀ a, X a → Y a) : Kin wS w B C Y :=
  ⟨h.size, h.low, h.high, h.free, h.ints, h.strs, fun a x n c ha => ⟨fun hn => (h.slices a x n c ha).1 fun hx => hn (hX a hx), (h.slices a x n c ha).2⟩⟩
theorem Kin.drewN (h : Kin wS w B C X) (m : Nat) : Kin wS (w.drewN m) B C X :=
  ⟨h.size, below_drewN h.low m, h.high, h.free, h.ints, h.strs, h.slices⟩
theorem Kin.drew (h : Kin wS w B C X) : Kin wS w.drew B C X :=
  ⟨h.size, h.low.drew, h.high, h.free, h.ints, h.strs, h.slices⟩

theorem size_setCell (w : World) (a : Addr) (v : Value) : (w.setCell a v).heap.size = w.heap.size := by simp [World.setCell]
/-- An int is written over an int. -/
theorem Kin.setInt (h : Kin wS w B C X) {k : IntKind} {n m : Int} (ha : wS.cell? a = some (.int k n)) (h1 : B ≤ a.block) (h2 : a.block < C) : Kin wS (w.setCell a (.int k m)) B C X where
  size := (size_setCell _ _ _).trans h.size
  low := h.low.setCell h1 _
  high := fun j hj => (heap_setCell_other _ _ _ _ (by omega)).trans (h.high j hj)
  free := fun b => by rw [World.frozen?_setCell, h.free]
  ints := fun b k' n' hb => by
    by_cases e : a = b
    · subst e
      rw [ha] at hb
      simp only [Option.some.injEq, Value.int.injEq] at hb
      obtain ⟨rfl, rfl⟩ := hb
      obtain ⟨m', hm⟩ := h.ints _ _ _ ha
      exact ⟨m, World.cell?_setCell_same _ _ _ hm⟩
    · obtain ⟨m', hm⟩ := h.ints b k' n' hb
      exact ⟨m', (World.cell?_setCell_other _ _ _ _ e).trans hm⟩
  strs := fun b s hb => by
    obtain ⟨t, ht⟩ := h.strs b s hb
    exact ⟨t, (World.cell?_setCell_other _ _ _ _ (fun e => by subst e; rw [ha] at hb; cases hb)).trans ht⟩
  slices := fun b x n' c hb => by
    have e : a ≠ b := fun e => by subst e; rw [ha] at hb; cases hb
    obtain ⟨h3, x', n'', c', h4⟩ := h.slices b x n' c hb
    exact ⟨fun hn => (World.cell?_setCell_other _ _ _ _ e).trans (h3 hn), x', n'', c', (World.cell?_setCell_other _ _ _ _ e).trans h4⟩
/-- A string is written over a string. -/
theorem Kin.setStr (h : Kin wS w B C X) {s t : ByteArray} (ha : wS.cell? a = some (.string s)) (h1 : B ≤ a.block) (h2 : a.block < C) : Kin wS (w.setCell a (.string t)) B C X where
  size := (size_setCell _ _ _).trans h.size
  low := h.low.setCell h1 _
  high := fun j hj => (heap_setCell_other _ _ _ _ (by omega)).trans (h.high j hj)
  free := fun b => by rw [World.frozen?_setCell, h.free]
  ints := fun b k n hb => by
    obtain ⟨m, hm⟩ := h.ints b k n hb
    exact ⟨m, (World.cell?_setCell_other _ _ _ _ (fun e => by subst e; rw [ha] at hb; cases hb)).trans hm⟩
  strs := fun b s' hb => by
    by_cases e : a = b
    · subst e
      obtain ⟨t', ht⟩ := h.strs _ _ ha
      exact ⟨t, World.cell?_setCell_same _ _ _ ht⟩
    · obtain ⟨t', ht⟩ := h.strs b s' hb
      exact ⟨t', (World.cell?_setCell_other _ _ _ _ e).trans ht⟩
  slices := fun b x n' c hb => by
    have e : a ≠ b := fun e => by subst e; rw [ha] at hb; cases hb
    obtain ⟨h3, x', n'', c', h4⟩ := h.slices b x n' c hb
    exact ⟨fun hn => (World.cell?_setCell_other _ _ _ _ e).trans (h3 hn), x', n'', c', (World.cell?_setCell_other _ _ _ _ e).trans h4⟩
/-- A slice is written over a slice, where X holds. -/
theorem Kin.setSlice (h : Kin wS w B C X) {x y : Option Addr} {n c n' c' : Nat} (ha : wS.cell? a = some (.slice x n c)) (hX : X a) (h1 : B ≤ a.block) (h2 : a.block < C) : Kin wS (w.setCell a (.slice y n' c')) B C X where
  size := (size_setCell _ _ _).trans h.size
  low := h.low.setCell h1 _
  high := fun j hj => (heap_setCell_other _ _ _ _ (by omega)).trans (h.high j hj)
  free := fun b => by rw [World.frozen?_setCell, h.free]
  ints := fun b k m hb => by
    obtain ⟨m', hm⟩ := h.ints b k m hb
    exact ⟨m', (World.cell?_setCell_other _ _ _ _ (fun e => by subst e; rw [ha] at hb; cases hb)).trans hm⟩
  strs := fun b s hb => by
    obtain ⟨t, ht⟩ := h.strs b s hb
    exact ⟨t, (World.cell?_setCell_other _ _ _ _ (fun e => by subst e; rw [ha] at hb; cases hb)).trans ht⟩
  slices := fun b x2 n2 c2 hb => by
    by_cases e : a = b
    · subst e
      obtain ⟨_, x3, n3, c3, h3⟩ := h.slices _ _ _ _ ha
      exact ⟨fun hn => absurd hX hn, y, n', c', World.cell?_setCell_same _ _ _ h3⟩
    · obtain ⟨h3, x', n'', c', h4⟩ := h.slices b x2 n2 c2 hb
      exact ⟨fun hn => (World.cell?_setCell_other _ _ _ _ e).trans (h3 hn), x', n'', c', (World.cell?_setCell_other _ _ _ _ e).trans h4⟩
end

section
variable {α : Type} {E : Ty α} {w : World} {S : Blk} {v : Value} {l : List α} {P : Program} {T e : TypeId}
/-- The address of an element, what lies there, and that it may be written. -/
theorem Sl.idxF (h : Sl E w S v l) (hA : At P E T e) (n : Int) (i : Nat) (hn : n = (i : Int)) (hi : i < l.length) :
    ∃ b o cs, (∀ W, Sem.run P (Instr.indexAt T v (.int .i64 n)) W = .ok (.pointer (some ⟨b, o, none⟩)) W) ∧ S b ∧ b < w.heap.size ∧ E.rd w S cs l[i] ∧
      ∀ j u, cs[j]? = some u → w.cell? ⟨b, o + j, none⟩ = some u ∧ w.frozen? ⟨b, o + j, none⟩ = false := by
  obtain ⟨ao, cap, rfl, hcap, hmax, hnil⟩ := h.shape
  obtain ⟨b, o, cs, rfl, hS, hb, hrd, hc⟩ := h.getF i l[i] (List.getElem?_eq_getElem hi)
  exact ⟨b, o + i * E.size, cs, fun W => run_idx hA n i hn hi W, hS, hb, hrd, hc⟩
theorem Sl.idxRowF {l : List Row} (h : Sl tRow w S v l) (hA : At P tRow T e) (n : Int) (i : Nat) (hn : n = (i : Int)) (hi : i < l.length) :
    ∃ b o x y, (∀ W, Sem.run P (Instr.indexAt T v (.int .i64 n)) W = .ok (.pointer (some ⟨b, o, none⟩)) W) ∧ S b ∧ w.cell? ⟨b, o, none⟩ = some (.int .i64 x) ∧ w.cell? ⟨b, o + 1, none⟩ = some (.int .i64 y) ∧ w.frozen? ⟨b, o, none⟩ = false ∧ w.frozen? ⟨b, o + 1, none⟩ = false := by
  obtain ⟨b, o, cs, h1, h2, h3, ⟨rfl, _⟩, h7⟩ := h.idxF hA n i hn hi
  obtain ⟨a1, a2⟩ := h7 0 _ rfl
  obtain ⟨b1, b2⟩ := h7 1 _ rfl
  exact ⟨b, o, _, _, h1, h2, a1, b1, a2, b2⟩
theorem Sl.idxIntF {l : List Int} (h : Sl tInt w S v l) (hA : At P tInt T e) (n : Int) (i : Nat) (hn : n = (i : Int)) (hi : i < l.length) :
    ∃ b o x, (∀ W, Sem.run P (Instr.indexAt T v (.int .i64 n)) W = .ok (.pointer (some ⟨b, o, none⟩)) W) ∧ S b ∧ w.cell? ⟨b, o, none⟩ = some (.int .i64 x) ∧ w.frozen? ⟨b, o, none⟩ = false := by
  obtain ⟨b, o, cs, h1, h2, h3, ⟨rfl, _⟩, h7⟩ := h.idxF hA n i hn hi
  obtain ⟨a1, a2⟩ := h7 0 _ rfl
  exact ⟨b, o, _, h1, h2, a1, a2⟩
theorem Sl.idxHeadF {l : List Head} (h : Sl tHead w S v l) (hA : At P tHead T e) (n : Int) (i : Nat) (hn : n = (i : Int)) (hi : i < l.length) :
    ∃ b o x y, (∀ W, Sem.run P (Instr.indexAt T v (.int .i64 n)) W = .ok (.pointer (some ⟨b, o, none⟩)) W) ∧ S b ∧ w.cell? ⟨b, o, none⟩ = some (.string x) ∧ w.cell? ⟨b, o + 1, none⟩ = some (.int .i64 y) ∧ w.frozen? ⟨b, o, none⟩ = false ∧ w.frozen? ⟨b, o + 1, none⟩ = false := by
  obtain ⟨b, o, cs, h1, h2, h3, ⟨rfl, _⟩, h7⟩ := h.idxF hA n i hn hi
  obtain ⟨a1, a2⟩ := h7 0 _ rfl
  obtain ⟨b1, b2⟩ := h7 1 _ rfl
  exact ⟨b, o, _, _, h1, h2, a1, b1, a2, b2⟩
/-- The commits' cells: where they begin, and what lies in the i-th. -/
theorem Sl.comsF {l : List Commit} (h : Sl tCommit w S v l) (hA : At P tCommit T e) :
    ∃ g o ao cap, v = .slice ao l.length cap ∧ l.length ≤ cap ∧ cap ≤ maxLen ∧ ∀ i (hi : i < l.length), ∃ a1 c1 a2 c2, (∀ W, Sem.run P (Instr.indexAt T v (.int .i64 i)) W = .ok (.pointer (some ⟨g, o + i * 2, none⟩)) W) ∧ S g ∧
      Sl tRow w S (.slice a1 l[i].1.length c1) l[i].1 ∧ Sl tInt w S (.slice a2 l[i].2.length c2) l[i].2 ∧
      w.cell? ⟨g, o + i * 2, none⟩ = some (.slice a1 l[i].1.length c1) ∧ w.cell? ⟨g, o + i * 2 + 1, none⟩ = some (.slice a2 l[i].2.length c2) ∧ w.frozen? ⟨g, o + i * 2, none⟩ = false ∧ w.frozen? ⟨g, o + i * 2 + 1, none⟩ = false := by
  obtain ⟨ao, cap, rfl, hcap, hmax, hnil⟩ := h.shape
  have key : ∃ g o, ∀ i (hi : i < l.length), ao = some ⟨g, o, none⟩ := by
    rcases Nat.eq_zero_or_pos l.length with h0 | h0
    · exact ⟨0, 0, fun i hi => by omega⟩
    · obtain ⟨b, o, cs, rfl, _⟩ := h.getF 0 l[0] (List.getElem?_eq_getElem h0)
      exact ⟨b, o, fun _ _ => rfl⟩
  obtain ⟨g, o, hgo⟩ := key
  refine ⟨g, o, ao, cap, rfl, hcap, hmax, fun i hi => ?_⟩
  obtain rfl := hgo i hi
  obtain ⟨b, o', cs, e, hS, hb, hrd, hc⟩ := h.getF i l[i] (List.getElem?_eq_getElem hi)
  simp only [Option.some.injEq, Addr.mk.injEq, and_true] at e
  obtain ⟨rfl, rfl⟩ := e
  obtain ⟨x, y, rfl, hx, hy⟩ := rd_commit hrd
  obtain ⟨a1, c1, rfl, _, _, _⟩ := hx.shape
  obtain ⟨a2, c2, rfl, _, _, _⟩ := hy.shape
  obtain ⟨p0, q0⟩ := hc 0 _ rfl
  obtain ⟨p1, q1⟩ := hc 1 _ rfl
  exact ⟨a1, c1, a2, c2, fun W => run_idx hA i i rfl hi W, hS, hx, hy, p0, p1, q0, q1⟩
end

theorem Sl.lenB {α : Type} {E : Ty α} {w : World} {S : Blk} {l : List α} {ao : Option Addr} {n cap : Nat} (h : Sl E w S (.slice ao n cap) l) : n ≤ 9223372036854775807 := by
  obtain ⟨ao', len', cap', hv, _, h2, h3, _⟩ := h
  simp at hv
  obtain ⟨rfl, rfl, rfl⟩ := hv
  unfold maxLen at h3
  omega
/-- The cells of the commits ahead of the k-th. -/
def comX (g o k : Nat) : Addr → Prop := fun a => ∃ i, i < k ∧ (a = ⟨g, o + i * 2, none⟩ ∨ a = ⟨g, o + i * 2 + 1, none⟩)
theorem sl_at {α : Type} {E : Ty α} {w : World} {S : Blk} {ao : Option Addr} {n cap : Nat} {l : List (List α)} {P : Program} {T e : TypeId} (h : Sl E.slice w S (.slice ao n cap) l) (hA : At P E.slice T e) (hn : n = l.length) (i : Nat) (hi : i < n) :
    ∃ b o a1 n1 c1 m, (∀ W, Sem.run P (Instr.indexAt T (.slice ao n cap) (.int .i64 i)) W = .ok (.pointer (some ⟨b, o, none⟩)) W) ∧ S b ∧ w.cell? ⟨b, o, none⟩ = some (.slice a1 n1 c1) ∧ Sl E w S (.slice a1 n1 c1) m ∧ Hid (n1 = m.length) := by
  obtain ⟨b, o, cs, h1, h2, h3, h4, h7⟩ := h.idxF hA i i rfl (by omega)
  obtain ⟨a1, n1, c1, rfl, q1, q2⟩ := h4
  exact ⟨b, o, a1, n1, c1, _, h1, h2, (h7 0 _ rfl).1, ⟨a1, n1, c1, rfl, q1, q2⟩, q1.symm⟩
theorem comX_block {g o k b i : Nat} (h : g ≠ b) : ¬ comX g o k ⟨b, i, none⟩ := by
  rintro ⟨j, _, h1 | h1⟩ <;> · simp only [Addr.mk.injEq] at h1; exact h h1.1.symm
theorem comX_zero {g o : Nat} {a : Addr} : ¬ comX g o 0 a := by rintro ⟨j, h, _⟩; omega
theorem comX_own {g o k : Nat} : ¬ comX g o k ⟨g, o + k * 2, none⟩ ∧ ¬ comX g o k ⟨g, o + k * 2 + 1, none⟩ := by
  constructor <;> · rintro ⟨j, hj, h1 | h1⟩ <;> · simp only [Addr.mk.injEq, true_and, and_true] at h1; omega
theorem comX_next {g o k : Nat} {a : Addr} (h : comX g o k a) : comX g o (k + 1) a := by
  obtain ⟨i, hi, h⟩ := h
  exact ⟨i, by omega, h⟩
theorem comX_new {g o k : Nat} : comX g o (k + 1) ⟨g, o + k * 2, none⟩ ∧ comX g o (k + 1) ⟨g, o + k * 2 + 1, none⟩ := ⟨⟨k, by omega, .inl rfl⟩, ⟨k, by omega, .inr rfl⟩⟩
theorem coms_at {w : World} {S : Blk} {ao : Option Addr} {n cap : Nat} {l : List Commit} {P : Program} {T e : TypeId} (h : Sl tCommit w S (.slice ao n cap) l) (hA : At P tCommit T e) (hn : n = l.length) :
    ∃ g o, ∀ i, i < n → ∃ a1 n1 c1 a2 n2 c2 lr lp, (∀ W, Sem.run P (Instr.indexAt T (.slice ao n cap) (.int .i64 i)) W = .ok (.pointer (some ⟨g, o + i * 2, none⟩)) W) ∧ S g ∧
      Sl tRow w S (.slice a1 n1 c1) lr ∧ Hid (lr.length = n1) ∧ Sl tInt w S (.slice a2 n2 c2) lp ∧ Hid (lp.length = n2) ∧
      w.cell? ⟨g, o + i * 2, none⟩ = some (.slice a1 n1 c1) ∧ w.cell? ⟨g, o + i * 2 + 1, none⟩ = some (.slice a2 n2 c2) ∧ w.frozen? ⟨g, o + i * 2, none⟩ = false ∧ w.frozen? ⟨g, o + i * 2 + 1, none⟩ = false := by
  subst hn
  obtain ⟨g, o, ao', cap', hv, _, _, h⟩ := h.comsF hA
  refine ⟨g, o, fun i hi => ?_⟩
  obtain ⟨a1, c1, a2, c2, h1, h2, h3, h4, h5⟩ := h i hi
  exact ⟨a1, _, c1, a2, _, c2, _, _, h1, h2, h3, rfl, h4, rfl, h5⟩

end Go.Pch
end
