/- The walks of package dag: checks. -/
import Derived.Test.YtklgejafblocjaaDagB
import Derived.Test.YtklgejafblocjaaC1
namespace Go.Pch
open Go.RowKit Go.Proofs

theorem aInt : At Try.prog tInt 33 3 := At.mk' Try.underlying33 (z := .int .i64 0) (size := 1) (bytes := 8) (by kernel_rfl) rfl rfl (by decide)
theorem aCom : At Try.prog tCommit 22 65 := At.mk' Try.underlying22 (z := .agg #[.slice none 0 0, .slice none 0 0]) (size := 2) (bytes := 48) (by kernel_rfl) rfl rfl (by decide)

theorem commitsErr_many {l : List Commit} (h : 14 < l.length) : commitsErr l = 2 := by rw [commitsErr, if_pos h]
theorem commitsErr_few {l : List Commit} (h : ¬ 14 < l.length) : commitsErr l = commitsFrom 0 l := by rw [commitsErr, if_neg h]
theorem commitErr_rows {n : Int} {r : List Row} {p : List Int} (h : rowsErr r ≠ 0) : commitErr n (r, p) = rowsErr r := by rw [commitErr, if_pos h]
theorem commitErr_form {n : Int} {r : List Row} {p : List Int} (h : rowsErr r = 0) (h2 : 2 < p.length ∨ risePB n (-1) p = false) : commitErr n (r, p) = 1 := by
  rw [commitErr, if_neg (by simpa using h), if_neg]
  rcases h2 with h2 | h2
  · simp; omega
  · simp [h2]
theorem commitErr_ok {n : Int} {r : List Row} {p : List Int} (h : rowsErr r = 0) (h2 : p.length ≤ 2) (h3 : risePB n (-1) p = true) : commitErr n (r, p) = 0 := by
  rw [commitErr, if_neg (by simpa using h), if_pos]
  simp [h2, h3]

set_option maxHeartbeats 1000000 in
theorem dagCheck (v : Value) (l : List Commit) (S : Blk) (w : World) (h : Sl tCommit w S v l) :
    Calls Try.prog 13 #[v] w (Ret w fun r _ => r = .int .i64 (commitsErr l)) := by
  obtain ⟨ao, cap, rfl, hcap, hmax, hnil⟩ := h.shape
  unfold maxLen at hmax
  go_enter Try.func13, Try.ntmps13
  go_wp2
  · go_ret
    exact ⟨_, rfl, by rw [commitsErr_many (by omega)]; rfl, Below.refl _ _⟩
  · go_loopw [14] (fun i wr => ∃ (k : Nat), k ≤ l.length ∧ i = .int .i64 k ∧ Below w.heap.size w wr ∧ Hid (commitsFrom 0 l = commitsFrom (k : Nat) (l.drop k))) (fun i _ => l.length - (intOf i).toNat)
    case atStart => exact ⟨0, Nat.zero_le _, rfl, Below.refl _ _, rfl⟩
    case round =>
      obtain ⟨k, hk, rfl, hb, hr⟩ := hrel
      by_cases hlt : k < l.length
      · obtain ⟨rs, ps, hck⟩ : ∃ r p, l[k] = (r, p) := ⟨_, _, rfl⟩
        obtain ⟨b, o, a1, c1, a2, c2, hix, _, hbs, h1, h2, z1, z2, z3, z4, hc0, hc1⟩ := (h.call hb).idxCommitAt aCom k k rfl hlt rs ps hck
        go_wp2_with fail
        refine (rowsCheck _ rs _ _ (h1.call ((Below.refl _ _).alloc (Nat.le_refl _) _))).mono ?_; rintro e w1 ⟨_, rfl, rfl, b1⟩
        obtain ⟨q0, q1, bq⟩ := boxed2 b1
        have hb1 := hb.trans (bq.mono hb.size)
        have h2' := h2.call bq
        clear b1
        by_cases hre : rowsErr rs = 0
        · rw [hre]
          go_wp2
          · go_ret
            exact ⟨_, rfl, by rw [commitsErr_few (by omega), hr.out, commitsFrom_stop hlt (by rw [hck, commitErr_form hre (.inl (by omega))]; decide), hck, commitErr_form hre (.inl (by omega))]; rfl, hb1⟩
          · go_loopw [6, 32] (fun last i wr => ∃ (j : Nat) (m : Int), j ≤ ps.length ∧ i = .int .i64 j ∧ last = .int .i64 m ∧ Below w1.heap.size w1 wr ∧ Hid (risePB k (-1) ps = risePB k m (ps.drop j))) (fun _ i _ => ps.length - (intOf i).toNat)
            case atStart => exact ⟨0, -1, Nat.zero_le _, rfl, rfl, Below.refl _ _, rfl⟩
            case round =>
              obtain ⟨j, m, hj, rfl, rfl, hb2, hr2⟩ := hrel
              by_cases hlt2 : j < ps.length
              · obtain ⟨b', o', hix', _, hbs', ok1, hc'⟩ := (h2'.call hb2).idxInt aInt j j rfl hlt2
                go_wp2
                any_goals
                  go_ret
                  have hno : risePB k (-1) ps = false := hr2.out.trans (risePB_stop hlt2 (by omega))
                  exact ⟨_, rfl, by rw [commitsErr_few (by omega), hr.out, commitsFrom_stop hlt (by rw [hck, commitErr_form hre (.inr hno)]; decide), hck, commitErr_form hre (.inr hno)]; rfl, hb1.trans (hb2.mono hb1.size)⟩
                go_roundw
                case rel => exact ⟨j + 1, _, by omega, by go_num, rfl, hb2, hr2.out.trans (risePB_go hlt2 (by omega))⟩
                case measure => simp [intOf]; omega
              · go_wp2
                have hyes := hr2.out.trans (risePB_end hlt2)
                go_roundw
                case rel => exact ⟨k + 1, by omega, by go_num, hb1.trans (hb2.mono hb1.size), hr.out.trans (commitsFrom_go hlt (by rw [hck]; exact commitErr_ok hre (by omega) hyes))⟩
                case measure => simp [intOf]; omega
        · have hre' : (rowsErr rs != 0) = true := by simp [hre]
          go_wp2
          go_ret
          exact ⟨_, rfl, by rw [commitsErr_few (by omega), hr.out, commitsFrom_stop hlt (by rw [hck, commitErr_rows hre]; exact hre), hck, commitErr_rows hre]; rfl, hb1⟩
      · go_wp2
        go_ret
        exact ⟨_, rfl, by rw [commitsErr_few (by omega), hr.out, commitsFrom_end hlt]; rfl, hb⟩
theorem dagCheck_of {c : Int} (v : Value) (l : List Commit) (S : Blk) (w : World) (h : Sl tCommit w S v l) (hc : commitsErr l = c) :
    Calls Try.prog 13 #[v] w (Ret w fun r _ => r = .int .i64 c) := hc ▸ dagCheck v l S w h

/-- Of the document's test: two parents rise, and each is in its bounds. -/
theorem risePB_doc (n : Int) {p : List Int} (h : p.length ≤ 2) : risePB n (-1) p = (!(decide (p.length = 2) && decide (p.getD 1 0 ≤ p.getD 0 0)) && p.all fun x => decide (0 ≤ x) && decide (x ≤ n - 1)) := by
  match p, h with
  | [], _ => rfl
  | [a], _ => rw [Bool.eq_iff_iff]; simp [risePB]; omega
  | [a, b], _ => rw [Bool.eq_iff_iff]; simp [risePB]; omega

/-- A parent's bounds. -/
def inB (n : Nat) (x : Int) : Bool := decide (0 ≤ x) && decide (x ≤ (n : Int) - 1)
theorem all_go {f : Int → Bool} {l : List Int} {j : Nat} (hj : j < l.length) (h : f l[j] = true) : (l.drop j).all f = (l.drop (j + 1)).all f := by
  rw [List.drop_eq_getElem_cons hj, List.all_cons, h, Bool.true_and]
theorem all_stop {f : Int → Bool} {l : List Int} {j : Nat} (hj : j < l.length) (h : f l[j] = false) : (l.drop j).all f = false := by
  rw [List.drop_eq_getElem_cons hj, List.all_cons, h, Bool.false_and]
theorem all_end {f : Int → Bool} {l : List Int} {j : Nat} (hj : ¬ j < l.length) : (l.drop j).all f = true := by
  rw [List.drop_of_length_le (by omega)]; rfl
theorem risePB_two {n : Int} {p : List Int} (h : 2 ≤ p.length) (hge : p[1]'(by omega) ≤ p[0]'(by omega)) : risePB n (-1) p = false := by
  match p, h with
  | a :: b :: _, _ =>
    simp at hge
    rw [Bool.eq_false_iff]
    intro g
    rw [risePB_cons, risePB_cons] at g
    omega
theorem risePB_out {n : Nat} {p : List Int} (h : p.all (inB n) = false) : risePB n (-1) p = false := by
  rw [Bool.eq_false_iff] at h ⊢
  intro g
  refine h (List.all_eq_true.2 fun x hx => ?_)
  have := risePB_mem g x hx
  simp [inB]; omega
theorem risePB_in {n : Nat} {p : List Int} (h : p.all (inB n) = true) (h2 : p.length ≤ 2) (h3 : ∀ g : 2 ≤ p.length, p[0] < p[1]) : risePB n (-1) p = true := by
  match p, h2 with
  | [], _ => rfl
  | [a], _ => simp [inB] at h; rw [risePB_cons]; exact ⟨by omega, rfl⟩
  | [a, b], _ => simp [inB] at h; have := h3 (by simp); simp at this; rw [risePB_cons, risePB_cons]; exact ⟨by omega, by omega, rfl⟩

theorem refRowsError_of {c : Int} (v : Value) (l : List Row) (S : Blk) (w : World) (h : Sl tRow w S v l) (hc : rowsErr l = c) :
    Calls Try.prog 39 #[v] w (Quiet w (.int .i64 c)) := hc ▸ refRowsError v l S w h

set_option maxHeartbeats 1000000 in
theorem refCommitsError (v : Value) (l : List Commit) (S : Blk) (w : World) (h : Sl tCommit w S v l) :
    Calls Try.prog 14 #[v] w (Quiet w (.int .i64 (commitsErr l))) := by
  have hv := h
  obtain ⟨ao, cap, rfl, hcap, hmax, hnil⟩ := h.shape
  unfold maxLen at hmax
  go_enter Try.func14, Try.ntmps14
  go_wp2
  · go_ret
    exact ⟨by rw [commitsErr_many (by omega)]; rfl, .refl _⟩
  · go_loopw [3] (fun i wr => ∃ (k : Nat), k ≤ l.length ∧ i = .int .i64 k ∧ Drawn w wr ∧ Hid (commitsFrom 0 l = commitsFrom (k : Nat) (l.drop k))) (fun i _ => l.length - (intOf i).toNat)
    case atStart => exact ⟨0, Nat.zero_le _, rfl, .refl _, rfl⟩
    case round =>
      obtain ⟨k, hk, rfl, hd, hr⟩ := hrel
      by_cases hlt : k < l.length
      · obtain ⟨rs, ps, hck⟩ : ∃ r p, l[k] = (r, p) := ⟨_, _, rfl⟩
        obtain ⟨b, o, a1, c1, a2, c2, hix, _, hbs, h1, h2, z1, z2, z3, z4, hc0, hc1⟩ := (hv.call hd.below).idxCommitAt aCom k k rfl hlt rs ps hck
        by_cases hre : rowsErr rs = 0
        · go_wp2_with fail
          refine (refRowsError_of _ rs _ _ h1 hre).mono ?_; rintro e w1 ⟨rfl, n1, rfl⟩
          have hd1 := hd.next n1
          have HF : Hid ((2 < ps.length ∨ risePB k (-1) ps = false) → Ending.returned (Value.int .i64 1) = Ending.returned (.int .i64 (commitsErr l))) := fun hno => by
            rw [commitsErr_few (by omega), hr.out, commitsFrom_stop hlt (by rw [hck, commitErr_form hre hno]; decide), hck, commitErr_form hre hno]
          by_cases hp2 : 2 < ps.length
          · have hg : decide (2 < ps.length) = true := by simp [hp2]
            have hg' : decide ((2 : Int) < ps.length) = true := by simp; omega
            go_wp2_with fail
            go_quiet (fail)
            go_wp2
            go_ret
            exact ⟨HF.out (.inl hp2), (hd1.next _)⟩
          · have hg : decide (2 < ps.length) = false := by simp; omega
            have hg' : decide ((2 : Int) < ps.length) = false := by simp; omega
            by_cases hl2 : ps.length = 2
            · have hq : ((ps.length : Int) == 2) = true := by simp [hl2]
              have hl3 : 2 ≤ ps.length := by omega
              clear hl2
              obtain ⟨b0, o0, hix0, _, hbs0, ok0, hcx0⟩ := h2.idxInt aInt 0 0 rfl (by omega)
              obtain ⟨b1, o1, hix1, _, hbs1, ok1, hcx1⟩ := h2.idxInt aInt 1 1 rfl (by omega)
              by_cases hge : ps[1] ≤ ps[0]
              · have hg3 : decide (ps[1] ≤ ps[0]) = true := by simp [hge]
                go_wp2_with fail
                go_quiet (fail)
                go_wp2
                go_ret
                exact ⟨HF.out (.inr (risePB_two hl3 hge)), hd1.next _⟩
              · have hg3 : decide (ps[1] ≤ ps[0]) = false := by simp; omega
                have HL : Hid (∀ g : 2 ≤ ps.length, ps[0] < ps[1]) := fun _ => by omega
                go_wp2_with fail
                go_quiet (fail)
                go_wp2_with fail
                go_loopw [6] (fun i wr' => ∃ (j : Nat), j ≤ ps.length ∧ i = .int .i64 j ∧ Drawn wr wr' ∧ Hid (ps.all (inB k) = (ps.drop j).all (inB k))) (fun i _ => ps.length - (intOf i).toNat)
                case atStart => exact ⟨0, Nat.zero_le _, rfl, ⟨_, by rw [World.drewN_drewN]⟩, rfl⟩
                case round =>
                  obtain ⟨j, hj, rfl, hd2, hr2⟩ := hrel
                  by_cases hlt2 : j < ps.length
                  · obtain ⟨b', o', hix', _, hbs', ok1, hc'⟩ := (h2.call hd2.below).idxInt aInt j j rfl hlt2
                    cases hin : inB k ps[j] with
                    | true =>
                      go_wp2_with fail
                      refine (refWithin_of ps[j] 0 ((k : Int) - 1) _ hin).mono ?_; rintro e w' ⟨rfl, rfl⟩
                      go_wp2
                      go_roundw
                      case rel => exact ⟨j + 1, by omega, by go_num, hd2, hr2.out.trans (all_go hlt2 hin)⟩
                      case measure => simp [intOf]; omega
                    | false =>
                      go_wp2_with fail
                      refine (refWithin_of ps[j] 0 ((k : Int) - 1) _ hin).mono ?_; rintro e w' ⟨rfl, rfl⟩
                      go_wp2
                      go_ret
                      exact ⟨HF.out (.inr (risePB_out (hr2.out.trans (all_stop hlt2 hin)))), hd.trans hd2⟩
                  · go_wp2
                    have hyes := risePB_in (hr2.out.trans (all_end hlt2)) (by omega) HL.out
                    go_roundw
                    case rel => exact ⟨k + 1, by omega, by go_num, hd.trans hd2, hr.out.trans (commitsFrom_go hlt (by rw [hck]; exact commitErr_ok hre (by omega) hyes))⟩
                    case measure => simp [intOf]; omega
            · have hq : ((ps.length : Int) == 2) = false := by simp; omega
              have HL : Hid (∀ g : 2 ≤ ps.length, ps[0] < ps[1]) := fun _ => by omega
              go_wp2_with fail
              go_quiet (fail)
              go_wp2_with fail
              go_loopw [6] (fun i wr' => ∃ (j : Nat), j ≤ ps.length ∧ i = .int .i64 j ∧ Drawn wr wr' ∧ Hid (ps.all (inB k) = (ps.drop j).all (inB k))) (fun i _ => ps.length - (intOf i).toNat)
              case atStart => exact ⟨0, Nat.zero_le _, rfl, ⟨_, by rw [World.drewN_drewN]⟩, rfl⟩
              case round =>
                obtain ⟨j, hj, rfl, hd2, hr2⟩ := hrel
                by_cases hlt2 : j < ps.length
                · obtain ⟨b', o', hix', _, hbs', ok1, hc'⟩ := (h2.call hd2.below).idxInt aInt j j rfl hlt2
                  cases hin : inB k ps[j] with
                  | true =>
                    go_wp2_with fail
                    refine (refWithin_of ps[j] 0 ((k : Int) - 1) _ hin).mono ?_; rintro e w' ⟨rfl, rfl⟩
                    go_wp2
                    go_roundw
                    case rel => exact ⟨j + 1, by omega, by go_num, hd2, hr2.out.trans (all_go hlt2 hin)⟩
                    case measure => simp [intOf]; omega
                  | false =>
                    go_wp2_with fail
                    refine (refWithin_of ps[j] 0 ((k : Int) - 1) _ hin).mono ?_; rintro e w' ⟨rfl, rfl⟩
                    go_wp2
                    go_ret
                    exact ⟨HF.out (.inr (risePB_out (hr2.out.trans (all_stop hlt2 hin)))), hd.trans hd2⟩
                · go_wp2
                  have hyes := risePB_in (hr2.out.trans (all_end hlt2)) (by omega) HL.out
                  go_roundw
                  case rel => exact ⟨k + 1, by omega, by go_num, hd.trans hd2, hr.out.trans (commitsFrom_go hlt (by rw [hck]; exact commitErr_ok hre (by omega) hyes))⟩
                  case measure => simp [intOf]; omega
        · have hre' : (rowsErr rs != 0) = true := by simp [hre]
          go_wp2_with fail
          refine (refRowsError _ rs _ _ h1).mono ?_; rintro e w1 ⟨rfl, d1⟩
          go_wp2
          go_ret
          exact ⟨by rw [commitsErr_few (by omega), hr.out, commitsFrom_stop hlt (by rw [hck, commitErr_rows hre]; exact hre), hck, commitErr_rows hre]; rfl, hd.trans d1⟩
      · go_wp2
        go_ret
        exact ⟨by rw [commitsErr_few (by omega), hr.out, commitsFrom_end hlt]; rfl, hd⟩

end Go.Pch
