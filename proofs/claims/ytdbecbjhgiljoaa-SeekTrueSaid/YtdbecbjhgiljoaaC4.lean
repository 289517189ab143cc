/- The walks: Clone; the first chunk; the document's CutOf and SumOf; chunk.Sum. -/
import Derived.Test.YtdbecbjhgiljoaaC3
namespace Go.Pch
open Go.RowKit Go.Proofs

set_option maxHeartbeats 400000 in
theorem cloneRow (v : Value) (l : List Row) (S : Blk) (w : World) (h : Sl tRow w S v l) (hl : l.length ≤ 1000000) :
    Calls Try.prog 71 #[v] w (Ret w fun r w' => Sl tRow w' (fun k => w.heap.size ≤ k) r l) := by
  obtain ⟨ao, cap, rfl, hcap, hmax, hnil⟩ := h.shape
  cases ao with
  | none =>
    have h0 := hnil rfl
    obtain rfl : l = [] := List.eq_nil_of_length_eq_zero (by omega)
    subst h0
    have hq := fun W => Lib.run_eql_slice_nil (P := Try.prog) W 22 31 none 0 0 0 0 Try.underlying22
    go_enter Try.func71, Try.ntmps71
    go_wp2
    go_ret
    exact ⟨_, rfl, Sl.nil _ _ _, Below.refl _ _⟩
  | some ad =>
    have hq := fun W => Lib.run_eql_slice_nil (P := Try.prog) W 22 31 (some ad) l.length cap 0 0 Try.underlying22
    have hs := fun W (hW : Below w.heap.size w W) => Src.row (D' := fun _ => False) (h.call hW).src
    go_enter Try.func71, Try.ntmps71
    go_wp2_with (at_builtin; refine wpList_grow rfl (.tmp 5) (.tmp 6) rfl aRow rfl (Own.made (B := w.heap.size) (C := fun _ => False) _ (Nat.le_refl _)) rfl rfl (hs _ ((Below.refl _ _).alloc (Nat.le_refl _) _)) (by simp) (fun _ h => h.elim) (by simp; omega) (by simp) ?_)
    intro v1 w1 hown hgrow
    go_wp2
    go_ret
    exact ⟨_, rfl, hown.sl (fun _ h => h.elim) (fun _ h => h), ((Below.refl _ _).alloc (Nat.le_refl _) _).grown hgrow (by simp) (by simp [Value.ownBlock])⟩

/-- B1: Cut's answer. -/
def cutL (l : List Row) (n : Int) : List (List Row) × Int := if rowsErr l = 0 then (if levB n then (chunks n l, 0) else ([], 3)) else ([], rowsErr l)
/-- B2: Sum's answer. -/
def sumOfL (l : List Row) : Int × Int := if rowsErr l = 0 then (sumL l, 0) else (0, rowsErr l)
set_option maxHeartbeats 400000 in
theorem refCutOf (v : Value) (l : List Row) (n : Int) (S : Blk) (w : World) (h : Sl tRow w S v l) :
    Calls Try.prog 16 #[v, .int .i64 n] w (Ret w fun r w' => ∃ x, r = .tuple #[x, .int .i64 (cutL l n).2] ∧ Sl tRow.slice w' (fun k => w.heap.size ≤ k) x (cutL l n).1) := by
  by_cases he : rowsErr l = 0
  · cases hn : levB n with
    | true =>
      go_enter Try.func16, Try.ntmps16
      go_wp2_with fail
      refine (refRowsError v l S w h).mono ?_; rintro e w1 ⟨rfl, hd⟩
      have hb := hd.below
      have hs := hb.size
      go_wp2_with fail
      refine (refWithin_of _ _ _ _ hn).mono ?_; rintro e w' ⟨rfl, rfl⟩
      go_wp2_with fail
      refine (refCut v l n S w1 (h.call hb) (by have := (ok_rise he).1; omega)).mono ?_; rintro e w2 ⟨x, rfl, hx, hb2⟩
      go_wp2
      go_ret2
      have hc : cutL l n = (chunks n l, 0) := by rw [cutL, if_pos he, if_pos hn]
      exact ⟨_, rfl, ⟨x, by rw [hc]; rfl, by rw [hc]; exact hx.mono fun k hk _ => by omega⟩, hb.trans (hb2.mono hs)⟩
    | false =>
      go_enter Try.func16, Try.ntmps16
      go_wp2_with fail
      refine (refRowsError v l S w h).mono ?_; rintro e w1 ⟨rfl, hd⟩
      have hb := hd.below
      go_wp2_with fail
      refine (refWithin_of _ _ _ _ hn).mono ?_; rintro e w' ⟨rfl, rfl⟩
      go_wp2
      go_ret2
      have hc : cutL l n = ([], 3) := by rw [cutL, if_pos he, if_neg (by simp [hn])]
      exact ⟨_, rfl, ⟨_, by rw [hc]; rfl, by rw [hc]; exact Sl.nil _ _ _⟩, hb⟩
  · have he' : (rowsErr l != 0) = true := by simp [he]
    go_enter Try.func16, Try.ntmps16
    go_wp2_with fail
    refine (refRowsError v l S w h).mono ?_; rintro e w1 ⟨rfl, hd⟩
    go_wp2
    go_ret2
    have hc : cutL l n = ([], rowsErr l) := by rw [cutL, if_neg he]
    exact ⟨_, rfl, ⟨_, by rw [hc]; rfl, by rw [hc]; exact Sl.nil _ _ _⟩, hd.below⟩

set_option maxHeartbeats 400000 in
theorem refSumOf (v : Value) (l : List Row) (S : Blk) (w : World) (h : Sl tRow w S v l) :
    Calls Try.prog 20 #[v] w (Quiet w (.tuple #[.int .i64 (sumOfL l).1, .int .i64 (sumOfL l).2])) := by
  by_cases he : rowsErr l = 0
  · go_enter Try.func20, Try.ntmps20
    go_wp2_with fail
    refine (refRowsError v l S w h).mono ?_; rintro e w1 ⟨rfl, hd⟩
    go_wp2_with fail
    refine (refSum v l S w1 (h.call hd.below) (ok_fine he)).mono ?_; rintro e w2 ⟨rfl, hd2⟩
    go_wp2
    go_ret2
    have hc : sumOfL l = (sumL l, 0) := by rw [sumOfL, if_pos he]
    exact ⟨by rw [hc]; rfl, hd.trans hd2⟩
  · have he' : (rowsErr l != 0) = true := by simp [he]
    go_enter Try.func20, Try.ntmps20
    go_wp2_with fail
    refine (refRowsError v l S w h).mono ?_; rintro e w1 ⟨rfl, hd⟩
    go_wp2
    go_ret2
    have hc : sumOfL l = (0, rowsErr l) := by rw [sumOfL, if_neg he]
    exact ⟨by rw [hc]; rfl, hd⟩

set_option maxHeartbeats 400000 in
theorem chunkSum (v : Value) (l : List Row) (S : Blk) (w : World) (h : Sl tRow w S v l) :
    Calls Try.prog 19 #[v] w (Ret w fun r _ => r = .tuple #[.int .i64 (sumOfL l).1, .int .i64 (sumOfL l).2]) := by
  by_cases he : rowsErr l = 0
  · go_enter Try.func19, Try.ntmps19
    go_wp2_with fail
    refine (rowsCheck v l S w h).mono ?_; rintro e w1 ⟨_, rfl, rfl, hb⟩
    go_wp2_with fail
    refine (chunkOf v l S w1 (h.call hb) (ok_fine he)).mono ?_; rintro e w2 ⟨_, rfl, rfl, hb2⟩
    go_wp2
    go_ret2
    have hc : sumOfL l = (sumL l, 0) := by rw [sumOfL, if_pos he]
    exact ⟨_, rfl, by rw [hc]; rfl, hb.trans (hb2.mono hb.size)⟩
  · have he' : (rowsErr l != 0) = true := by simp [he]
    go_enter Try.func19, Try.ntmps19
    go_wp2_with fail
    refine (rowsCheck v l S w h).mono ?_; rintro e w1 ⟨_, rfl, rfl, hb⟩
    go_wp2
    go_ret2
    have hc : sumOfL l = (0, rowsErr l) := by rw [sumOfL, if_neg he]
    exact ⟨_, rfl, by rw [hc]; rfl, hb⟩

set_option maxHeartbeats 400000 in
theorem chunkFirst (v : Value) (l : List Row) (n : Int) (S : Blk) (w : World) (h : Sl tRow w S v l) (hl : l ≠ []) :
    Calls Try.prog 73 #[v, .int .i64 n] w (Ret w fun r _ => r = .int .i64 (cnt n 0 l : Nat)) := by
  have hlp := List.length_pos_iff.2 hl
  have hv := h
  obtain ⟨ao, cap, rfl, hcap, hmax, hnil⟩ := h.shape
  unfold maxLen at hmax
  have h1 : l.length = 1 → cnt n 0 l = 1 := by
    intro e
    have := cnt_cut (n := n) (l := l) (k := 0) (c := 0) (by omega) (by simp [e])
    simpa using this
  have h2 : 2 ≤ l.length → cnt n 0 l = cnt n 1 (l.drop 1) := by
    intro e
    have := cnt_go (n := n) (l := l) (k := 0) (c := 0) (by omega) (by simp; omega)
    simpa using this
  have H1 := keepBack h1
  have H2 := keepBack h2
  clear h1 h2
  go_enter Try.func73, Try.ntmps73
  go_wp2
  · have h6 : 6 < l.length := by omega
    go_loopw [6] (fun i wr => ∃ k : Nat, 2 ≤ k ∧ k ≤ 6 ∧ i = .int .i64 k ∧ Below w.heap.size w wr ∧ Hid (cnt n 0 l = cnt n (k - 1) (l.drop (k - 1)))) (fun i _ => 6 - (intOf i).toNat)
    case atStart => exact ⟨2, by omega, by omega, rfl, Below.refl _ _, H2.out (by omega)⟩
    case round =>
      obtain ⟨k, hk2, hk, rfl, hb, hr⟩ := hrel
      by_cases hlt : k < 6
      · obtain ⟨b, o, hix, _, hbs, ok1, ok2, hc0, hc1⟩ := (hv.call hb).idxRow aRow ((k : Int) - 1) (k - 1) (by omega) (by omega)
        cases hE : endsB l[k - 1] n with
        | true =>
          go_wp2_with (go_at_call 21; refine (chunkEnds _ _ _).mono ?_; rintro e w1 ⟨_, rfl, rfl, hb1⟩)
          go_ret
          exact ⟨_, rfl, by rw [hr.out, cnt_cut (by omega) (by simp [hE]; omega), show k - 1 + 1 = k by omega]; rfl, hb.trans (hb1.mono hb.size)⟩
        | false =>
          go_wp2_with (go_at_call 21; refine (chunkEnds _ _ _).mono ?_; rintro e w1 ⟨_, rfl, rfl, hb1⟩)
          go_roundw
          case rel => exact ⟨k + 1, by omega, by omega, by go_num, hb.trans (hb1.mono hb.size), keepBack (by rw [hr.out, cnt_go (by omega) (by simp [hE]; omega)]; simp only [Nat.add_sub_cancel, show k - 1 + 1 = k by omega])⟩
          case measure => simp [intOf]; omega
      · have h5 : k = 6 := by omega
        have hfin : cnt n 0 l = 6 := by rw [hr.out, h5, cnt_cut (by omega) (by simp)]
        have HF := keepBack hfin
        clear h5 hfin hr
        go_wp2
        go_ret
        exact ⟨_, rfl, by rw [HF.out]; rfl, hb⟩
  · have h6 : l.length ≤ 6 := by omega
    go_loopw [6] (fun i wr => ∃ k : Nat, 2 ≤ k ∧ (k ≤ 2 ∨ k ≤ l.length) ∧ i = .int .i64 k ∧ Below w.heap.size w wr ∧ Hid (2 ≤ l.length → cnt n 0 l = cnt n (k - 1) (l.drop (k - 1)))) (fun i _ => 6 - (intOf i).toNat)
    case atStart => exact ⟨2, by omega, by omega, rfl, Below.refl _ _, H2.out⟩
    case round =>
      obtain ⟨k, hk2, hk, rfl, hb, hr⟩ := hrel
      by_cases hlt : k < l.length
      · obtain ⟨b, o, hix, _, hbs, ok1, ok2, hc0, hc1⟩ := (hv.call hb).idxRow aRow ((k : Int) - 1) (k - 1) (by omega) (by omega)
        cases hE : endsB l[k - 1] n with
        | true =>
          go_wp2_with (go_at_call 21; refine (chunkEnds _ _ _).mono ?_; rintro e w1 ⟨_, rfl, rfl, hb1⟩)
          go_ret
          exact ⟨_, rfl, by rw [hr.out (by omega), cnt_cut (by omega) (by simp [hE]; omega), show k - 1 + 1 = k by omega]; rfl, hb.trans (hb1.mono hb.size)⟩
        | false =>
          go_wp2_with (go_at_call 21; refine (chunkEnds _ _ _).mono ?_; rintro e w1 ⟨_, rfl, rfl, hb1⟩)
          go_roundw
          case rel => exact ⟨k + 1, by omega, by omega, by go_num, hb.trans (hb1.mono hb.size), fun h2 => by rw [hr.out h2, cnt_go (by omega) (by simp [hE]; omega)]; simp only [Nat.add_sub_cancel, show k - 1 + 1 = k by omega]⟩
          case measure => simp [intOf]; omega
      · have hfin : cnt n 0 l = l.length := by
          by_cases e1 : l.length = 1
          · rw [H1.out e1, e1]
          · have e2 : k = l.length := by omega
            rw [hr.out (by omega), cnt_cut (by omega) (by simp; omega)]; omega
        have HF := keepBack hfin
        clear hfin hr
        go_wp2
        go_ret
        exact ⟨_, rfl, by rw [HF.out]; rfl, hb⟩

end Go.Pch
