/- The walks of package dag: checks. Chapter 9: names, heads, repos: plain words, and how their cells read. The walks of names: strings.ContainsFunc at the program's predicate, repo.Name. The walks of repo.Check. -/
import Derived.Test.YtjjkdpjjaijmbaaGreatDoorDg2
import Derived.Test.YtjjkdpjjaijmbaaGreatDoorDg1
import Derived.Deep.LoopGhost
import Derived.Lib.OthersKept
import Derived.Lib.TrimU
section
namespace Go.Pch
open Go.RowKit Go.Proofs
theorem aInt : At Tryz.prog tInt 57 3 := At.mk' Tryz.underlying57 (z := .int .i64 0) (size := 1) (bytes := 8) (by kernel_rfl) rfl rfl (by decide)
theorem aCom : At Tryz.prog tCommit 30 59 := At.mk' Tryz.underlying30 (z := .agg #[.slice none 0 0, .slice none 0 0]) (size := 2) (bytes := 48) (by kernel_rfl) rfl rfl (by decide)
theorem commitsErr_many {l : List Commit} (h : 14 < l.length) : commitsErr l = 2 := by rw [commitsErr, if_pos h]
theorem commitsErr_few {l : List Commit} (h : ¬ 14 < l.length) : commitsErr l = commitsFrom 0 l := by rw [commitsErr, if_neg h]
theorem commitErr_rows {n : Int} {r : List Row} {p : List Int} (h : rowsErr r ≠ 0) : commitErr n (r, p) = rowsErr r := by rw [commitErr, if_pos h]
theorem commitErr_form {n : Int} {r : List Row} {p : List Int} (h : rowsErr r = 0) (h2 : 2 < p.length ∨ risePB n (-1) p = false) : commitErr n (r, p) = 1 := by
  rw [commitErr, if_neg (by simpa using h), if_neg]
  rcases h2 with h2 | h2
  · simp; omega
  · simp [h2]
theorem commitErr_ok {n : Int} {r : List Row} {p : List Int} (h : rowsErr r = 0) (h2 : p.length ≤ 2) (h3 : risePB n (-1) p = true) : commitErr n (r, p) = 0 := by
  rw [commitErr, if_neg (by simpa using h), if_pos]
  simp [h2, h3]
set_option maxHeartbeats 1000000 in
theorem dagCheck (v : Value) (l : List Commit) (S : Blk) (w : World) (h : Sl tCommit w S v l) :
    Calls Tryz.prog 175 #[v] w (Ret w fun r _ => r = .int .i64 (commitsErr l)) := by
  obtain ⟨ao, cap, rfl, hcap, hmax, hnil⟩ := h.shape
  unfold maxLen at hmax
  go_enter Tryz.func175, Tryz.ntmps175
  go_wp2
  · go_ret
    exact ⟨_, rfl, by rw [commitsErr_many (by omega)]; rfl, Below.refl _ _⟩
  · go_loopw [14] (fun i wr => ∃ (k : Nat), k ≤ l.length ∧ i = .int .i64 k ∧ Below w.heap.size w wr ∧ Hid (commitsFrom 0 l = commitsFrom (k : Nat) (l.drop k))) (fun i _ => l.length - (intOf i).toNat)
    case atStart => exact ⟨0, Nat.zero_le _, rfl, Below.refl _ _, rfl⟩
    case round =>
      obtain ⟨k, hk, rfl, hb, hr⟩ := hrel
      by_cases hlt : k < l.length
      · obtain ⟨rs, ps, hck⟩ : ∃ r p, l[k] = (r, p) := ⟨_, _, rfl⟩
        obtain ⟨b, o, a1, c1, a2, c2, hix, _, hbs, h1, h2, z1, z2, z3, z4, hc0, hc1⟩ := (h.call hb).idxCommitAt aCom k k rfl hlt rs ps hck
        go_wp2_with fail
        refine (rowsCheck _ rs _ _ (h1.call ((Below.refl _ _).alloc (Nat.le_refl _) _))).mono ?_; rintro e w1 ⟨_, rfl, rfl, b1⟩
        obtain ⟨q0, q1, bq⟩ := boxed2 b1
        have hb1 := hb.trans (bq.mono hb.size)
        have h2' := h2.call bq
        clear b1
        by_cases hre : rowsErr rs = 0
        · rw [hre]
          go_wp2
          · go_ret
            exact ⟨_, rfl, by rw [commitsErr_few (by omega), hr.out, commitsFrom_stop hlt (by rw [hck, commitErr_form hre (.inl (by omega))]; decide), hck, commitErr_form hre (.inl (by omega))]; rfl, hb1⟩
          · go_loopw [6, 32] (fun last i wr => ∃ (j : Nat) (m : Int), j ≤ ps.length ∧ i = .int .i64 j ∧ last = .int .i64 m ∧ Below w1.heap.size w1 wr ∧ Hid (risePB k (-1) ps = risePB k m (ps.drop j))) (fun _ i _ => ps.length - (intOf i).toNat)
            case atStart => exact ⟨0, -1, Nat.zero_le _, rfl, rfl, Below.refl _ _, rfl⟩
            case round =>
              obtain ⟨j, m, hj, rfl, rfl, hb2, hr2⟩ := hrel
              by_cases hlt2 : j < ps.length
              · obtain ⟨b', o', hix', _, hbs', ok1, hc'⟩ := (h2'.call hb2).idxInt aInt j j rfl hlt2
                go_wp2
                any_goals
                  go_ret
                  have hno : risePB k (-1) ps = false := hr2.out.trans (risePB_stop hlt2 (by omega))
                  exact ⟨_, rfl, by rw [commitsErr_few (by omega), hr.out, commitsFrom_stop hlt (by rw [hck, commitErr_form hre (.inr hno)]; decide), hck, commitErr_form hre (.inr hno)]; rfl, hb1.trans (hb2.mono hb1.size)⟩
                go_roundw
                case rel => exact ⟨j + 1, _, by omega, by go_num, rfl, hb2, hr2.out.trans (risePB_go hlt2 (by omega))⟩
                case measure => simp [intOf]; omega
              · go_wp2
                have hyes := hr2.out.trans (risePB_end hlt2)
                go_roundw
                case rel => exact ⟨k + 1, by omega, by go_num, hb1.trans (hb2.mono hb1.size), hr.out.trans (commitsFrom_go hlt (by rw [hck]; exact commitErr_ok hre (by omega) hyes))⟩
                case measure => simp [intOf]; omega
        · have hre' : (rowsErr rs != 0) = true := by simp [hre]
          go_wp2
          go_ret
          exact ⟨_, rfl, by rw [commitsErr_few (by omega), hr.out, commitsFrom_stop hlt (by rw [hck, commitErr_rows hre]; exact hre), hck, commitErr_rows hre]; rfl, hb1⟩
      · go_wp2
        go_ret
        exact ⟨_, rfl, by rw [commitsErr_few (by omega), hr.out, commitsFrom_end hlt]; rfl, hb⟩
theorem dagCheck_of {c : Int} (v : Value) (l : List Commit) (S : Blk) (w : World) (h : Sl tCommit w S v l) (hc : commitsErr l = c) :
    Calls Tryz.prog 175 #[v] w (Ret w fun r _ => r = .int .i64 c) := hc ▸ dagCheck v l S w h
def inB (n : Nat) (x : Int) : Bool := decide (0 ≤ x) && decide (x ≤ (n : Int) - 1)
theorem all_go {f : Int → Bool} {l : List Int} {j : Nat} (hj : j < l.length) (h : f l[j] = true) : (l.drop j).all f = (l.drop (j + 1)).all f := by
  rw [List.drop_eq_getElem_cons hj, List.all_cons, h, Bool.true_and]
theorem all_stop {f : Int → Bool} {l : List Int} {j : Nat} (hj : j < l.length) (h : f l[j] = false) : (l.drop j).all f = false := by
  rw [List.drop_eq_getElem_cons hj, List.all_cons, h, Bool.false_and]
theorem all_end {f : Int → Bool} {l : List Int} {j : Nat} (hj : ¬ j < l.length) : (l.drop j).all f = true := by
  rw [List.drop_of_length_le (by omega)]; rfl
theorem risePB_two {n : Int} {p : List Int} (h : 2 ≤ p.length) (hge : p[1]'(by omega) ≤ p[0]'(by omega)) : risePB n (-1) p = false := by
  match p, h with
  | a :: b :: _, _ =>
    simp at hge
    rw [Bool.eq_false_iff]
    intro g
    rw [risePB_cons, risePB_cons] at g
    omega
theorem risePB_out {n : Nat} {p : List Int} (h : p.all (inB n) = false) : risePB n (-1) p = false := by
  rw [Bool.eq_false_iff] at h ⊢
  intro g
  refine h (List.all_eq_true.2 fun x hx => ?_)
  have := risePB_mem g x hx
  simp [inB]; omega
theorem risePB_in {n : Nat} {p : List Int} (h : p.all (inB n) = true) (h2 : p.length ≤ 2) (h3 : ∀ g : 2 ≤ p.length, p[0] < p[1]) : risePB n (-1) p = true := by
  match p, h2 with
  | [], _ => rfl
  | [a], _ => simp [inB] at h; rw [risePB_cons]; exact ⟨by omega, rfl⟩
  | [a, b], _ => simp [inB] at h; have := h3 (by simp); simp at this; rw [risePB_cons, risePB_cons]; exact ⟨by omega, by omega, rfl⟩
theorem refRowsError_of {c : Int} (v : Value) (l : List Row) (S : Blk) (w : World) (h : Sl tRow w S v l) (hc : rowsErr l = c) :
    Calls Tryz.prog 117 #[v] w (Quiet w (.int .i64 c)) := hc ▸ refRowsError v l S w h
set_option maxHeartbeats 1000000 in
theorem refCommitsError (v : Value) (l : List Commit) (S : Blk) (w : World) (h : Sl tCommit w S v l) :
    Calls Tryz.prog 150 #[v] w (Quiet w (.int .i64 (commitsErr l))) := by
  have hv := h
  obtain ⟨ao, cap, rfl, hcap, hmax, hnil⟩ := h.shape
  unfold maxLen at hmax
  go_enter Tryz.func150, Tryz.ntmps150
  go_wp2
  · go_ret
    exact ⟨by rw [commitsErr_many (by omega)]; rfl, .refl _⟩
  · go_loopw [3] (fun i wr => ∃ (k : Nat), k ≤ l.length ∧ i = .int .i64 k ∧ Drawn w wr ∧ Hid (commitsFrom 0 l = commitsFrom (k : Nat) (l.drop k))) (fun i _ => l.length - (intOf i).toNat)
    case atStart => exact ⟨0, Nat.zero_le _, rfl, .refl _, rfl⟩
    case round =>
      obtain ⟨k, hk, rfl, hd, hr⟩ := hrel
      by_cases hlt : k < l.length
      · obtain ⟨rs, ps, hck⟩ : ∃ r p, l[k] = (r, p) := ⟨_, _, rfl⟩
        obtain ⟨b, o, a1, c1, a2, c2, hix, _, hbs, h1, h2, z1, z2, z3, z4, hc0, hc1⟩ := (hv.call hd.below).idxCommitAt aCom k k rfl hlt rs ps hck
        by_cases hre : rowsErr rs = 0
        · go_wp2_with fail
          refine (refRowsError_of _ rs _ _ h1 hre).mono ?_; rintro e w1 ⟨rfl, n1, rfl⟩
          have hd1 := hd.next n1
          have HF : Hid ((2 < ps.length ∨ risePB k (-1) ps = false) → Ending.returned (Value.int .i64 1) = Ending.returned (.int .i64 (commitsErr l))) := fun hno => by
            rw [commitsErr_few (by omega), hr.out, commitsFrom_stop hlt (by rw [hck, commitErr_form hre hno]; decide), hck, commitErr_form hre hno]
          by_cases hp2 : 2 < ps.length
          · have hg : decide (2 < ps.length) = true := by simp [hp2]
            have hg' : decide ((2 : Int) < ps.length) = true := by simp; omega
            go_wp2_with fail
            go_quiet (fail)
            go_wp2
            go_ret
            exact ⟨HF.out (.inl hp2), (hd1.next _)⟩
          · have hg : decide (2 < ps.length) = false := by simp; omega
            have hg' : decide ((2 : Int) < ps.length) = false := by simp; omega
            by_cases hl2 : ps.length = 2
            · have hq : ((ps.length : Int) == 2) = true := by simp [hl2]
              have hl3 : 2 ≤ ps.length := by omega
              clear hl2
              obtain ⟨b0, o0, hix0, _, hbs0, ok0, hcx0⟩ := h2.idxInt aInt 0 0 rfl (by omega)
              obtain ⟨b1, o1, hix1, _, hbs1, ok1, hcx1⟩ := h2.idxInt aInt 1 1 rfl (by omega)
              by_cases hge : ps[1] ≤ ps[0]
              · have hg3 : decide (ps[1] ≤ ps[0]) = true := by simp [hge]
                go_wp2_with fail
                go_quiet (fail)
                go_wp2
                go_ret
                exact ⟨HF.out (.inr (risePB_two hl3 hge)), hd1.next _⟩
              · have hg3 : decide (ps[1] ≤ ps[0]) = false := by simp; omega
                have HL : Hid (∀ g : 2 ≤ ps.length, ps[0] < ps[1]) := fun _ => by omega
                go_wp2_with fail
                go_quiet (fail)
                go_wp2_with fail
                go_loopw [6] (fun i wr' => ∃ (j : Nat), j ≤ ps.length ∧ i = .int .i64 j ∧ Drawn wr wr' ∧ Hid (ps.all (inB k) = (ps.drop j).all (inB k))) (fun i _ => ps.length - (intOf i).toNat)
                case atStart => exact ⟨0, Nat.zero_le _, rfl, ⟨_, by rw [World.drewN_drewN]⟩, rfl⟩
                case round =>
                  obtain ⟨j, hj, rfl, hd2, hr2⟩ := hrel
                  by_cases hlt2 : j < ps.length
                  · obtain ⟨b', o', hix', _, hbs', ok1, hc'⟩ := (h2.call hd2.below).idxInt aInt j j rfl hlt2
                    cases hin : inB k ps[j] with
                    | true =>
                      go_wp2_with fail
                      refine (refWithin_of ps[j] 0 ((k : Int) - 1) _ hin).mono ?_; rintro e w' ⟨rfl, rfl⟩
                      go_wp2
                      go_roundw
                      case rel => exact ⟨j + 1, by omega, by go_num, hd2, hr2.out.trans (all_go hlt2 hin)⟩
                      case measure => simp [intOf]; omega
                    | false =>
                      go_wp2_with fail
                      refine (refWithin_of ps[j] 0 ((k : Int) - 1) _ hin).mono ?_; rintro e w' ⟨rfl, rfl⟩
                      go_wp2
                      go_ret
                      exact ⟨HF.out (.inr (risePB_out (hr2.out.trans (all_stop hlt2 hin)))), hd.trans hd2⟩
                  · go_wp2
                    have hyes := risePB_in (hr2.out.trans (all_end hlt2)) (by omega) HL.out
                    go_roundw
                    case rel => exact ⟨k + 1, by omega, by go_num, hd.trans hd2, hr.out.trans (commitsFrom_go hlt (by rw [hck]; exact commitErr_ok hre (by omega) hyes))⟩
                    case measure => simp [intOf]; omega
            · have hq : ((ps.length : Int) == 2) = false := by simp; omega
              have HL : Hid (∀ g : 2 ≤ ps.length, ps[0] < ps[1]) := fun _ => by omega
              go_wp2_with fail
              go_quiet (fail)
              go_wp2_with fail
              go_loopw [6] (fun i wr' => ∃ (j : Nat), j ≤ ps.length ∧ i = .int .i64 j ∧ Drawn wr wr' ∧ Hid (ps.all (inB k) = (ps.drop j).all (inB k))) (fun i _ => ps.length - (intOf i).toNat)
              case atStart => exact ⟨0, Nat.zero_le _, rfl, ⟨_, by rw [World.drewN_drewN]⟩, rfl⟩
              case round =>
                obtain ⟨j, hj, rfl, hd2, hr2⟩ := hrel
                by_cases hlt2 : j < ps.length
                · obtain ⟨b', o', hix', _, hbs', ok1, hc'⟩ := (h2.call hd2.below).idxInt aInt j j rfl hlt2
                  cases hin : inB k ps[j] with
                  | true =>
                    go_wp2_with fail
                    refine (refWithin_of ps[j] 0 ((k : Int) - 1) _ hin).mono ?_; rintro e w' ⟨rfl, rfl⟩
                    go_wp2
                    go_roundw
                    case rel => exact ⟨j + 1, by omega, by go_num, hd2, hr2.out.trans (all_go hlt2 hin)⟩
                    case measure => simp [intOf]; omega
                  | false =>
                    go_wp2_with fail
                    refine (refWithin_of ps[j] 0 ((k : Int) - 1) _ hin).mono ?_; rintro e w' ⟨rfl, rfl⟩
                    go_wp2
                    go_ret
                    exact ⟨HF.out (.inr (risePB_out (hr2.out.trans (all_stop hlt2 hin)))), hd.trans hd2⟩
                · go_wp2
                  have hyes := risePB_in (hr2.out.trans (all_end hlt2)) (by omega) HL.out
                  go_roundw
                  case rel => exact ⟨k + 1, by omega, by go_num, hd.trans hd2, hr.out.trans (commitsFrom_go hlt (by rw [hck]; exact commitErr_ok hre (by omega) hyes))⟩
                  case measure => simp [intOf]; omega
        · have hre' : (rowsErr rs != 0) = true := by simp [hre]
          go_wp2_with fail
          refine (refRowsError _ rs _ _ h1).mono ?_; rintro e w1 ⟨rfl, d1⟩
          go_wp2
          go_ret
          exact ⟨by rw [commitsErr_few (by omega), hr.out, commitsFrom_stop hlt (by rw [hck, commitErr_rows hre]; exact hre), hck, commitErr_rows hre]; rfl, hd.trans d1⟩
      · go_wp2
        go_ret
        exact ⟨by rw [commitsErr_few (by omega), hr.out, commitsFrom_end hlt]; rfl, hd⟩
end Go.Pch
end

section
namespace Go.Pch
open Go.RowKit Go.Proofs
def letB (c : UInt8) : Bool := decide (97 ≤ c.toNat) && decide (c.toNat ≤ 122)
def nameB (s : ByteArray) : Bool := (decide (1 ≤ s.size) && decide (s.size ≤ 8)) && s.toList.all letB
abbrev Head := ByteArray × Int
abbrev Repo := List Commit × List Head
def headsRise (n : Nat) : List UInt8 → List Head → Bool
  | _, [] => true
  | last, h :: hs => (Op.bytesLess last h.1.toList && (decide (0 ≤ h.2) && decide (h.2 < n))) && headsRise n h.1.toList hs
def repoErr (r : Repo) : Int :=
  if commitsErr r.1 ≠ 0 then commitsErr r.1 else if 4 < r.2.length then 2 else if (r.2.any fun h => !nameB h.1) = true then 4 else if headsRise r.1.length [] r.2 = true then 0 else 1
def headK : List Head → ByteArray → Option Nat
  | [], _ => none
  | h :: hs, s => if h.1.toList = s.toList then some 0 else (headK hs s).map (· + 1)
def headP (r : Repo) (s : ByteArray) : Int × Int :=
  if repoErr r = 0 then (match headK r.2 s with
    | some k => ((r.2[k]?.getD (ByteArray.empty, 0)).2, 0)
    | none => (0, 5)) else (0, repoErr r)
def logL (l : List Commit) (n : Nat) : List Int := (((List.range l.length).filter (ab l n)).map Int.ofNat).reverse
def logP (r : Repo) (s : ByteArray) : List Int × Int := if (headP r s).2 = 0 then (logL r.1 (headP r s).1.toNat, 0) else ([], (headP r s).2)
theorem less_iff : ∀ (a b : List UInt8), Op.bytesLess a b = true ↔ a < b
  | [], [] => by simp [Op.bytesLess]
  | _ :: _, [] => by simp [Op.bytesLess]
  | [], _ :: _ => by simp [Op.bytesLess]
  | x :: a, y :: b => by
    rw [Op.bytesLess, List.cons_lt_cons_iff, Bool.or_eq_true, Bool.and_eq_true, decide_eq_true_eq, beq_iff_eq, less_iff a b]
theorem less_trans {a b c : List UInt8} (h : Op.bytesLess a b = true) (g : Op.bytesLess b c = true) : Op.bytesLess a c = true := by
  rw [less_iff] at *
  exact List.lt_trans h g
theorem less_irrefl (a : List UInt8) : Op.bytesLess a a = false := by
  cases h : Op.bytesLess a a with
  | false => rfl
  | true => rw [less_iff] at h; exact absurd h (List.lt_irrefl a)
theorem less_tri {a b : List UInt8} (h : Op.bytesLess a b = false) (hne : a ≠ b) : Op.bytesLess b a = true := by
  rw [less_iff]
  have h1 : ¬ a < b := fun h' => by rw [← less_iff, h] at h'; cases h'
  rcases List.le_iff_lt_or_eq.1 (List.not_lt.1 h1) with h2 | h2
  · exact h2
  · exact absurd h2.symm hne
theorem less_asymm {a b : List UInt8} (h : Op.bytesLess a b = true) : Op.bytesLess b a = false := by
  cases g : Op.bytesLess b a with
  | false => rfl
  | true => have := less_trans h g; rw [less_irrefl] at this; cases this
theorem less_nil {a : List UInt8} (h : a ≠ []) : Op.bytesLess [] a = true := by
  cases a with
  | nil => exact absurd rfl h
  | cons => rfl
def tHead : Ty Head := Ty.flat 2 (by decide) (fun h => [.string h.1, .int .i64 h.2]) (fun h => i64ok h.2 ∧ h.1.size ≤ maxLen) (by intro; rfl) (by intro a u hu; simp at hu; rcases hu with rfl | rfl <;> rfl)
theorem aHead : At Tryz.prog tHead 31 61 := At.mk' Tryz.underlying31 (z := .agg #[.string ByteArray.empty, .int .i64 0]) (size := 2) (bytes := 24) (by kernel_rfl) rfl rfl (by decide)
theorem Sl.idxHeadAt {w : World} {S : Blk} {P : Program} {T e : TypeId} {v : Value} {l : List Head} (h : Sl tHead w S v l) (hA : At P tHead T e) (n : Int) (i : Nat) (x : Head) (hn : n = (i : Int)) (hx : l[i]? = some x) :
    ∃ b o, (∀ W, Sem.run P (Instr.indexAt T v (.int .i64 n)) W = .ok (.pointer (some ⟨b, o, none⟩)) W) ∧ S b ∧ b < w.heap.size ∧ i64ok x.2 ∧ x.1.size ≤ maxLen ∧
      w.cell? ⟨b, o, none⟩ = some (.string x.1) ∧ w.cell? ⟨b, o + 1, none⟩ = some (.int .i64 x.2) := by
  obtain ⟨hi, rfl⟩ := List.getElem?_eq_some_iff.1 hx
  obtain ⟨b, o, cs, h1, h2, h3, ⟨rfl, h5, h6⟩, h7⟩ := h.idx hA n i hn hi
  exact ⟨b, o, h1, h2, h3, h5, h6, by simpa using h7 0 _ rfl, h7 1 _ rfl⟩
def Rp (w : World) (S : Blk) (v : Value) (r : Repo) : Prop := ∃ vc vh, v = .agg #[vc, vh] ∧ Sl tCommit w S vc r.1 ∧ Sl tHead w S vh r.2
end Go.Pch
end

section
namespace Go.Pch
open Go.RowKit Go.Proofs
set_option maxRecDepth 100000
theorem decodeN_high (n b0 b1 b2 b3 : Nat) (h0 : 128 ≤ b0) : 128 ≤ (Lib.decodeN n b0 b1 b2 b3).1 := by
  unfold Lib.decodeN
  repeat' split
  all_goals (simp only; omega)
theorem rune_out (s : ByteArray) (pos : Nat) (h : pos < s.size) (hb : letB (s[pos]'h) = false) : (Utf8.decode s pos).1 < 97 ∨ 122 < (Utf8.decode s pos).1 := by
  by_cases ha : (s[pos]'h).toNat < 128
  · rw [decode_ascii s pos h ha]
    simp [letB] at hb
    by_cases h1 : (s[pos]'h).toNat < 97
    · exact .inl h1
    · exact .inr (hb (by omega))
  · refine .inr ?_
    rw [Lib.decode_at]
    have := decodeN_high (s.size - pos) (s.get! pos).toNat (s.get! (pos + 1)).toNat (s.get! (pos + 2)).toNat (s.get! (pos + 3)).toNat (by
      have e : s.get! pos = s[pos]'h := by
        cases s with
        | mk d =>
          have hd : pos < d.size := h
          simp [ByteArray.get!, hd]
          rfl
      rw [e]; omega)
    omega
theorem rune_in (s : ByteArray) (pos : Nat) (h : pos < s.size) (hb : letB (s[pos]'h) = true) : Utf8.decode s pos = ((s[pos]'h).toNat, 1) ∧ 97 ≤ (s[pos]'h).toNat ∧ (s[pos]'h).toNat ≤ 122 := by
  simp [letB] at hb
  exact ⟨decode_ascii s pos h (by omega), hb.1, hb.2⟩
theorem letters_next {s : ByteArray} {pos : Nat} (h : pos < s.size) (hl : (s.toList.take pos).all letB = true) (hb : letB (s[pos]'h) = true) : (s.toList.take (pos + 1)).all letB = true := by
  rw [ByteArray.toList_eq] at *
  have hp : pos < s.data.toList.length := by simpa using h
  rw [List.take_add_one, List.getElem?_eq_getElem hp, List.all_append, hl]
  have hb' : letB (s.data[pos]'h) = true := hb
  simpa using hb'
theorem letters_not {s : ByteArray} {pos : Nat} (h : pos < s.size) (hb : letB (s[pos]'h) = false) : s.toList.all letB = false := by
  rw [ByteArray.toList_eq]
  have hp : pos < s.data.toList.length := by simpa using h
  rw [List.all_eq_false]
  have hb' : letB (s.data[pos]'h) = false := hb
  exact ⟨s.data.toList[pos], List.getElem_mem hp, by simpa using hb'⟩
theorem letters_all {s : ByteArray} {pos : Nat} (h : ¬ pos < s.size) (hl : (s.toList.take pos).all letB = true) : s.toList.all letB = true := by
  rw [List.take_of_length_le] at hl
  · exact hl
  · rw [ByteArray.toList_eq]; simp; have : s.data.size = s.size := rfl; omega
theorem nameRune (R : Nat) (w : World) : Calls Tryz.prog 134 #[.int .i32 R] w fun e w' => e = .returned (.bool (decide (R < 97) || decide (122 < R))) ∧ w = w' := by
  by_cases h1 : R < 97 <;> by_cases h2 : 122 < R
  all_goals
    have z1 : (R : Int) < 97 ↔ R < 97 := by omega
    have z2 : (122 : Int) < R ↔ 122 < R := by omega
    go_enter Tryz.func134, Tryz.ntmps134
    go_wp2
    all_goals first | (exfalso; omega) | (go_ret; exact ⟨by simp [h1, h2], rfl⟩)
theorem nameRune_of {c : Bool} (R : Nat) (w : World) (h : (decide (R < 97) || decide (122 < R)) = c) : Calls Tryz.prog 134 #[.int .i32 R] w fun e w' => e = .returned (.bool c) ∧ w = w' := h ▸ nameRune R w
set_option maxHeartbeats 2000000 in
theorem nameIndex (s : ByteArray) (w : World) :
    Calls Tryz.prog 189 #[.string s, .func (.func 134) #[] #[], .bool true] w (Ret w fun r _ => ∃ i : Int, r = .int .i64 i ∧ decide (0 ≤ i) = !(s.toList.all letB)) := by
  go_enter Tryz.func189, Tryz.ntmps189
  go_wp2
  go_loopg [] s.size (fun gf wx => ∃ pos : Nat, wx.heap[w.heap.size]? = some (.stringIter s pos) ∧ Below w.heap.size w wx ∧ Hid ((s.toList.take pos).all letB = true) ∧ s.size ≤ pos + gf)
  case atStart => exact ⟨0, World.iter_heap w s 0, (Below.refl _ w).alloc (Nat.le_refl _) _, keepBack (by simp), by omega⟩
  case round =>
    obtain ⟨pos, hit, hbw, HL, hfu⟩ := hrel
    by_cases hps : pos < s.size
    · obtain ⟨g', rfl⟩ : ∃ g', gk = g' + 1 := ⟨gk - 1, by omega⟩
      have hnx : ∀ ty, (Instr.next (.pointer (some ⟨w.heap.size, 0, none⟩)) true ty).run Tryz.prog wr = _ := fun ty => Lib.run_next_any_at wr w.heap.size s pos ty hit hps
      cases hb : letB (s[pos]'hps) with
      | true =>
        obtain ⟨e1, e2, e3⟩ := rune_in s pos hps hb
        rw [e1] at hnx
        have HN := keepBack (letters_next hps HL.out hb)
        have hit2 := Lib.iterAt_heap wr w.heap.size s pos (pos + 1) hit
        have hbw2 := Lib.below_iterAt hbw (k := w.heap.size) (Nat.le_refl _) s (pos + 1)
        obtain ⟨W, hWd⟩ : ∃ W, wr.iterAt w.heap.size s (pos + 1) = W := ⟨_, rfl⟩
        simp only [hWd] at hnx hit2 hbw2
        generalize (s[pos]'hps).toNat = R at *
        clear hb e1 hWd
        have cS := nameRune_of (c := false) R W (by simp; omega)
        go_wp2_with (go_at_call 134; refine cS.mono ?_; rintro e W' ⟨rfl, rfl⟩)
        go_roundg g'
        case measure => omega
        case rel => exact ⟨pos + 1, hit2, hbw2, HN, by omega⟩
      | false =>
        have HN := keepBack (letters_not hps hb)
        have ho := rune_out s pos hps hb
        have hbw2 := Lib.below_iterAt hbw (k := w.heap.size) (Nat.le_refl _) s (pos + (Utf8.decode s pos).2)
        obtain ⟨W, hWd⟩ : ∃ W, wr.iterAt w.heap.size s (pos + (Utf8.decode s pos).2) = W := ⟨_, rfl⟩
        rw [hWd] at hbw2
        simp only [hWd] at hnx
        generalize (Utf8.decode s pos).1 = R at *
        clear hb hWd
        have cS := nameRune_of (c := true) R W (by simp; omega)
        go_wp2_with (go_at_call 134; refine cS.mono ?_; rintro e W' ⟨rfl, rfl⟩)
        go_ret
        exact ⟨_, rfl, ⟨_, rfl, by rw [HN.out]; simp⟩, hbw2⟩
    · have hnx : ∀ ty, (Instr.next (.pointer (some ⟨w.heap.size, 0, none⟩)) true ty).run Tryz.prog wr = _ := fun ty => Lib.run_next_end_at wr w.heap.size s pos ty hit hps
      have HN := keepBack (letters_all hps HL.out)
      go_wp2
      go_ret
      exact ⟨_, rfl, ⟨_, rfl, by rw [HN.out]; rfl⟩, hbw⟩
theorem nameIndexF (s : ByteArray) (w : World) :
    Calls Tryz.prog 171 #[.string s, .func (.func 134) #[] #[]] w (Ret w fun r _ => ∃ i : Int, r = .int .i64 i ∧ decide (0 ≤ i) = !(s.toList.all letB)) := by
  go_enter Tryz.func171, Tryz.ntmps171
  go_wp2_with fail
  refine (nameIndex s w).mono ?_; rintro e w1 ⟨_, rfl, ⟨i, rfl, hi⟩, b1⟩
  go_wp2
  go_ret
  exact ⟨_, rfl, ⟨_, rfl, hi⟩, b1⟩
theorem nameContains (s : ByteArray) (w : World) :
    Calls Tryz.prog 133 #[.string s, .func (.func 134) #[] #[]] w (Ret w fun r _ => r = .bool (!(s.toList.all letB))) := by
  go_enter Tryz.func133, Tryz.ntmps133
  go_wp2_with fail
  refine (nameIndexF s w).mono ?_; rintro e w1 ⟨_, rfl, ⟨i, rfl, hi⟩, b1⟩
  go_wp2
  go_ret
  exact ⟨_, rfl, by rw [← hi]; rfl, b1⟩
theorem nameContains_of {c : Bool} (s : ByteArray) (w : World) (h : s.toList.all letB = c) :
    Calls Tryz.prog 133 #[.string s, .func (.func 134) #[] #[]] w (Ret w fun r _ => r = .bool (!c)) := h ▸ nameContains s w
theorem repoName (s : ByteArray) (w : World) : Calls Tryz.prog 102 #[.string s] w (Ret w fun r _ => r = .bool (nameB s)) := by
  by_cases h1 : 1 ≤ s.size
  · by_cases h2 : s.size ≤ 8
    · cases hc : s.toList.all letB with
      | true =>
        have HN := keepBack (show nameB s = true by simp [nameB, h1, h2, hc])
        go_enter Tryz.func102, Tryz.ntmps102
        go_wp2_with (go_at_call 133; refine (nameContains_of s w hc).mono ?_; rintro e w1 ⟨_, rfl, rfl, b1⟩)
        go_ret
        exact ⟨_, rfl, by rw [HN.out]; rfl, b1⟩
      | false =>
        have HN := keepBack (show nameB s = false by simp [nameB, hc])
        go_enter Tryz.func102, Tryz.ntmps102
        go_wp2_with (go_at_call 133; refine (nameContains_of s w hc).mono ?_; rintro e w1 ⟨_, rfl, rfl, b1⟩)
        go_ret
        exact ⟨_, rfl, by rw [HN.out]; rfl, b1⟩
    · have HN := keepBack (show nameB s = false by simp [nameB, h2])
      go_enter Tryz.func102, Tryz.ntmps102
      go_wp2_with fail
      go_ret
      exact ⟨_, rfl, by rw [HN.out]; rfl, Below.refl _ _⟩
  · have HN := keepBack (show nameB s = false by simp [nameB, h1])
    go_enter Tryz.func102, Tryz.ntmps102
    go_wp2_with fail
    go_ret
    exact ⟨_, rfl, by rw [HN.out]; rfl, Below.refl _ _⟩
end Go.Pch
end

section
namespace Go.Pch
open Go.RowKit Go.Proofs
set_option maxRecDepth 100000
theorem check1 (s : ByteArray) (n : Int) (w : World) : Calls Tryz.prog 177 #[.agg #[.string s, .int .i64 n]] w (Ret w fun r _ => r = .bool (!nameB s)) := by
  go_enter Tryz.func177, Tryz.ntmps177
  go_wp2_with fail
  refine (repoName s _).mono ?_; rintro e w1 ⟨_, rfl, rfl, b1⟩
  go_wp2
  go_ret
  exact ⟨_, rfl, rfl, ((Below.refl _ _).alloc (Nat.le_refl _) _).trans (b1.mono (by simp))⟩
theorem check1_of {c : Bool} (s : ByteArray) (n : Int) (w : World) (h : nameB s = c) : Calls Tryz.prog 177 #[.agg #[.string s, .int .i64 n]] w (Ret w fun r _ => r = .bool (!c)) := h ▸ check1 s n w
set_option maxHeartbeats 1000000 in
theorem headsIndex (v : Value) (hs : List Head) (S : Blk) (w : World) (h : Sl tHead w S v hs) :
    Calls Tryz.prog 192 #[v, .func (.func 177) #[] #[]] w (Ret w fun r _ => ∃ i : Int, r = .int .i64 i ∧ decide (0 ≤ i) = hs.any fun h => !nameB h.1) := by
  have hv := h.old
  obtain ⟨ao, cap, rfl, hcap, hmax, hnil⟩ := h.shape
  unfold maxLen at hmax
  go_enter Tryz.func192, Tryz.ntmps192
  go_wp2_with fail
  go_loopw [8] (fun i wr => ∃ (k : Nat), k ≤ hs.length ∧ i = .int .i64 k ∧ Below w.heap.size w wr ∧ Hid (((hs.take k).any fun h => !nameB h.1) = false)) (fun i _ => hs.length - (intOf i).toNat)
  case atStart => exact ⟨0, Nat.zero_le _, rfl, Below.refl _ _, keepBack rfl⟩
  case round =>
    obtain ⟨k, hk, rfl, hb, HA⟩ := hrel
    have hs' := hb.size
    by_cases hlt : k < hs.length
    · obtain ⟨x, hx⟩ : ∃ x, hs[k]? = some x := ⟨hs[k], List.getElem?_eq_getElem hlt⟩
      obtain ⟨b, o, hix, _, hbs, ok1, ok2, hc00, hc10⟩ := hv.idxHeadAt aHead k k x rfl hx
      have hc0 := (hb.cell (p := ⟨b, o, none⟩) hbs).trans hc00
      have hc1 := (hb.cell (p := ⟨b, o + 1, none⟩) hbs).trans hc10
      clear hc00 hc10
      have HX := keepBack hx
      clear hx
      cases hn : nameB x.1 with
      | true =>
        have HA2 : Hid (((hs.take (k + 1)).any fun h => !nameB h.1) = false) := keepBack (by rw [List.take_add_one, HX.out, List.any_append, HA.out]; simp [hn])
        go_wp2_with (go_at_call 177; refine (check1_of x.1 x.2 wr hn).mono ?_; rintro e w1 ⟨_, rfl, rfl, b1⟩)
        go_roundw
        case rel => exact ⟨k + 1, by omega, by go_num, hb.trans (b1.mono hs'), HA2⟩
        case measure => simp [intOf]; omega
      | false =>
        have HR : Hid ((hs.any fun h => !nameB h.1) = true) := keepBack (by rw [List.any_eq_true]; exact ⟨x, List.mem_of_getElem? HX.out, by simp [hn]⟩)
        go_wp2_with (go_at_call 177; refine (check1_of x.1 x.2 wr hn).mono ?_; rintro e w1 ⟨_, rfl, rfl, b1⟩)
        go_ret
        exact ⟨_, rfl, ⟨_, rfl, by rw [HR.out]; simp⟩, hb.trans (b1.mono hs')⟩
    · have HR : Hid ((hs.any fun h => !nameB h.1) = false) := keepBack (by have := HA.out; rwa [List.take_of_length_le (by omega)] at this)
      go_wp2
      go_ret
      exact ⟨_, rfl, ⟨_, rfl, by rw [HR.out]; rfl⟩, hb⟩
theorem headsContains (v : Value) (hs : List Head) (S : Blk) (w : World) (h : Sl tHead w S v hs) :
    Calls Tryz.prog 176 #[v, .func (.func 177) #[] #[]] w (Ret w fun r _ => r = .bool (hs.any fun h => !nameB h.1)) := by
  go_enter Tryz.func176, Tryz.ntmps176
  go_wp2_with fail
  refine (headsIndex v hs S w h).mono ?_; rintro e w1 ⟨_, rfl, ⟨i, rfl, hi⟩, b1⟩
  go_wp2
  go_ret
  exact ⟨_, rfl, by rw [← hi]; rfl, b1⟩
theorem headsContains_of {c : Bool} (v : Value) (hs : List Head) (S : Blk) (w : World) (h : Sl tHead w S v hs) (hc : (hs.any fun h => !nameB h.1) = c) :
    Calls Tryz.prog 176 #[v, .func (.func 177) #[] #[]] w (Ret w fun r _ => r = .bool c) := hc ▸ headsContains v hs S w h
theorem headsRise_go {n : Nat} {last : List UInt8} {hs : List Head} {k : Nat} {x : Head} (hx : hs[k]? = some x) (h : (Op.bytesLess last x.1.toList && (decide (0 ≤ x.2) && decide (x.2 < n))) = true) : headsRise n last (hs.drop k) = headsRise n x.1.toList (hs.drop (k + 1)) := by
  obtain ⟨hk, rfl⟩ := List.getElem?_eq_some_iff.1 hx
  rw [List.drop_eq_getElem_cons hk, headsRise, h, Bool.true_and]
theorem headsRise_stop {n : Nat} {last : List UInt8} {hs : List Head} {k : Nat} {x : Head} (hx : hs[k]? = some x) (h : (Op.bytesLess last x.1.toList && (decide (0 ≤ x.2) && decide (x.2 < n))) = false) : headsRise n last (hs.drop k) = false := by
  obtain ⟨hk, rfl⟩ := List.getElem?_eq_some_iff.1 hx
  rw [List.drop_eq_getElem_cons hk, headsRise, h, Bool.false_and]
theorem headsRise_end {n : Nat} {last : List UInt8} {hs : List Head} {k : Nat} (hk : ¬ k < hs.length) : headsRise n last (hs.drop k) = true := by
  rw [List.drop_of_length_le (by omega), headsRise]
theorem repoErr_dag {r : Repo} (h : commitsErr r.1 ≠ 0) : repoErr r = commitsErr r.1 := by rw [repoErr, if_pos h]
theorem repoErr_many {r : Repo} (h : commitsErr r.1 = 0) (h1 : 4 < r.2.length) : repoErr r = 2 := by rw [repoErr, if_neg (by simp [h]), if_pos h1]
theorem repoErr_name {r : Repo} (h : commitsErr r.1 = 0) (h1 : ¬ 4 < r.2.length) (h2 : (r.2.any fun h => !nameB h.1) = true) : repoErr r = 4 := by rw [repoErr, if_neg (by simp [h]), if_neg h1, if_pos h2]
theorem repoErr_form {r : Repo} (h : commitsErr r.1 = 0) (h1 : ¬ 4 < r.2.length) (h2 : (r.2.any fun h => !nameB h.1) = false) {c : Bool} (h3 : headsRise r.1.length [] r.2 = c) : repoErr r = if c = true then 0 else 1 := by rw [repoErr, if_neg (by simp [h]), if_neg h1, if_neg (by simp [h2]), h3]
set_option maxHeartbeats 4000000 in
theorem repoCheck (v : Value) (r : Repo) (S : Blk) (w : World) (h : Rp w S v r) : Calls Tryz.prog 144 #[v] w (Ret w fun x _ => x = .int .i64 (repoErr r)) := by
  obtain ⟨cs, hs⟩ := r
  obtain ⟨vc, vh, rfl, hc, hh⟩ := h
  obtain ⟨ac, cc, rfl, _, _, _⟩ := hc.shape
  obtain ⟨ah, ch, rfl, _, _, _⟩ := hh.shape
  simp only at hc hh
  obtain ⟨wA, hwA⟩ : ∃ wA, wA = w.alloc (.cells #[.slice ac cs.length cc, .slice ah hs.length ch] 33) := ⟨_, rfl⟩
  have bA : Below w.heap.size w wA := by rw [hwA]; exact (Below.refl _ _).alloc (Nat.le_refl _) _
  have sA : wA.heap.size = w.heap.size + 1 := by rw [hwA]; simp
  have k0 : wA.cell? ⟨w.heap.size, 0, none⟩ = some (.slice ac cs.length cc) := by rw [hwA]; simp
  have k1 : wA.cell? ⟨w.heap.size, 1, none⟩ = some (.slice ah hs.length ch) := by rw [hwA]; simp
  have HWA := keepBack hwA
  clear hwA
  by_cases hd : commitsErr cs = 0
  · by_cases hm : 4 < hs.length
    · have HP := keepBack (repoErr_many (r := (cs, hs)) hd hm)
      have hq : (4 : Int) < hs.length := by omega
      go_enter Tryz.func144, Tryz.ntmps144
      go_wp2_with fail
      rw [← HWA.out]
      refine (dagCheck_of _ cs _ wA (hc.call bA) hd).mono ?_; rintro e w1 ⟨_, rfl, rfl, b1⟩
      have r0 := (b1.cell (p := ⟨w.heap.size, 0, none⟩) (by simp; omega)).trans k0
      have r1 := (b1.cell (p := ⟨w.heap.size, 1, none⟩) (by simp; omega)).trans k1
      go_wp2_with fail
      go_ret
      exact ⟨_, rfl, by rw [HP.out]; rfl, bA.trans (b1.mono (by omega))⟩
    · have hq : ¬ (4 : Int) < hs.length := by omega
      cases hn : hs.any fun h => !nameB h.1 with
      | true =>
        have HP := keepBack (repoErr_name (r := (cs, hs)) hd hm hn)
        go_enter Tryz.func144, Tryz.ntmps144
        go_wp2_with fail
        rw [← HWA.out]
        refine (dagCheck_of _ cs _ wA (hc.call bA) hd).mono ?_; rintro e w1 ⟨_, rfl, rfl, b1⟩
        have s1 := b1.size
        have r0 := (b1.cell (p := ⟨w.heap.size, 0, none⟩) (by simp; omega)).trans k0
        have r1 := (b1.cell (p := ⟨w.heap.size, 1, none⟩) (by simp; omega)).trans k1
        go_wp2_with fail
        refine (headsContains_of _ hs _ w1 ((hh.call bA).call b1) hn).mono ?_; rintro e w2 ⟨_, rfl, rfl, b2⟩
        go_wp2_with fail
        go_ret
        exact ⟨_, rfl, by rw [HP.out]; rfl, (bA.trans (b1.mono (by omega))).trans (b2.mono (by omega))⟩
      | false =>
        have HP := fun c => @repoErr_form (cs, hs) hd hm hn c
        have HPK := keepBack HP
        clear HP
        go_enter Tryz.func144, Tryz.ntmps144
        go_wp2_with fail
        rw [← HWA.out]
        refine (dagCheck_of _ cs _ wA (hc.call bA) hd).mono ?_; rintro e w1 ⟨_, rfl, rfl, b1⟩
        have s1 := b1.size
        have r0 := (b1.cell (p := ⟨w.heap.size, 0, none⟩) (by simp; omega)).trans k0
        have r1 := (b1.cell (p := ⟨w.heap.size, 1, none⟩) (by simp; omega)).trans k1
        go_wp2_with fail
        refine (headsContains_of _ hs _ w1 ((hh.call bA).call b1) hn).mono ?_; rintro e w2 ⟨_, rfl, rfl, b2⟩
        have b02 := (bA.trans (b1.mono (by omega))).trans (b2.mono (by omega))
        have s2 := b2.size
        have q0 := (b2.cell (p := ⟨w.heap.size, 0, none⟩) (by simp; omega)).trans r0
        have q1 := (b2.cell (p := ⟨w.heap.size, 1, none⟩) (by simp; omega)).trans r1
        have hh2 := (((hh.call bA).call b1).call b2).old
        clear r0 r1 k0 k1
        go_wp2_with fail
        go_loopw [4, 23] (fun ls i wr => ∃ (k : Nat) (l : ByteArray), k ≤ hs.length ∧ i = .int .i64 k ∧ ls = .string l ∧ Below w2.heap.size w2 wr ∧ Hid (headsRise cs.length [] hs = headsRise cs.length l.toList (hs.drop k))) (fun _ i _ => hs.length - (intOf i).toNat)
        case atStart => exact ⟨0, _, Nat.zero_le _, rfl, rfl, Below.refl _ _, keepBack (by rw [List.drop_zero, ByteArray.toList_eq])⟩
        case round =>
          obtain ⟨k, l, hk, rfl, rfl, hb, HR⟩ := hrel
          have hs' := hb.size
          have z0 := (hb.cell (p := ⟨w.heap.size, 0, none⟩) (by simp; omega)).trans q0
          have bb : Below w.heap.size w wr := b02.trans (hb.mono (by omega))
          by_cases hlt : k < hs.length
          · obtain ⟨x, hx⟩ : ∃ x, hs[k]? = some x := ⟨hs[k], List.getElem?_eq_getElem hlt⟩
            obtain ⟨b, o, hix, _, hbs, ok1, ok2, hc00, hc10⟩ := hh2.idxHeadAt aHead k k x rfl hx
            have hc0 := (hb.cell (p := ⟨b, o, none⟩) hbs).trans hc00
            have hc1 := (hb.cell (p := ⟨b, o + 1, none⟩) hbs).trans hc10
            have hzne : w.heap.size ≠ wr.heap.size := by omega
            clear hc00 hc10 q0 q1
            have HX := keepBack hx
            clear hx
            have z1 : ∀ o, (wr.alloc o).cell? ⟨w.heap.size, 0, none⟩ = some (.slice ac cs.length cc) := fun o => (((Below.refl wr.heap.size wr).alloc (Nat.le_refl _) o).cell (p := ⟨w.heap.size, 0, none⟩) (by simp; omega)).trans z0
            have ADD : ∀ o, Below w.heap.size w (wr.alloc o) := fun o => bb.alloc bb.size o
            cases e1 : Op.bytesLess x.1.toList l.toList with
            | true =>
              have HE := keepBack (HPK.out false (HR.out.trans (headsRise_stop HX.out (by rw [less_asymm e1]; rfl))))
              go_wp2_with fail
              go_ret
              exact ⟨_, rfl, by rw [HE.out]; rfl, ADD _⟩
            | false =>
              cases e2 : (x.1.toList == l.toList) with
              | true =>
                have HE := keepBack (HPK.out false (HR.out.trans (headsRise_stop HX.out (by rw [eq_of_beq e2, less_irrefl]; rfl))))
                go_wp2_with fail
                go_ret
                exact ⟨_, rfl, by rw [HE.out]; rfl, ADD _⟩
              | false =>
                have e3 : Op.bytesLess l.toList x.1.toList = true := less_tri e1 (by simpa using e2)
                by_cases q1 : x.2 < 0
                · have HE := keepBack (HPK.out false (HR.out.trans (headsRise_stop HX.out (by simp; omega))))
                  go_wp2_with fail
                  go_ret
                  exact ⟨_, rfl, by rw [HE.out]; rfl, ADD _⟩
                · have d1 : decide (x.2 < 0) = false := by simpa using q1
                  have Q1 := keepBack q1
                  clear q1
                  by_cases q2 : (cs.length : Int) ≤ x.2
                  · have d2 : decide ((cs.length : Int) ≤ x.2) = true := by simpa using q2
                    have HE := keepBack (HPK.out false (HR.out.trans (headsRise_stop HX.out (by simp; omega))))
                    clear q2
                    go_wp2_with fail
                    go_ret
                    exact ⟨_, rfl, by rw [HE.out]; rfl, ADD _⟩
                  · have d2 : decide ((cs.length : Int) ≤ x.2) = false := by simpa using q2
                    have HG := keepBack (HR.out.trans (headsRise_go HX.out (by have := Q1.out; rw [e3]; simp; omega)))
                    clear q2
                    go_wp2_with fail
                    go_roundw
                    case rel => exact ⟨k + 1, x.1, by omega, by go_num, rfl, hb.alloc hs' _, HG⟩
                    case measure => simp [intOf]; omega
          · have HE := keepBack (HPK.out true (HR.out.trans (headsRise_end hlt)))
            go_wp2
            go_ret
            exact ⟨_, rfl, by rw [HE.out]; rfl, bb⟩
  · have HP := keepBack (repoErr_dag (r := (cs, hs)) hd)
    have hq : (commitsErr cs != 0) = true := by simp [hd]
    go_enter Tryz.func144, Tryz.ntmps144
    go_wp2_with fail
    rw [← HWA.out]
    refine (dagCheck _ cs _ wA (hc.call bA)).mono ?_; rintro e w1 ⟨_, rfl, rfl, b1⟩
    go_wp2_with fail
    go_ret
    exact ⟨_, rfl, by rw [HP.out]; rfl, bA.trans (b1.mono (by omega))⟩
end Go.Pch
end
