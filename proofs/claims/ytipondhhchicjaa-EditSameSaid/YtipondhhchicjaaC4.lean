/- The walks: Clone; the first chunk; the document's CutOf and SumOf; chunk.Sum. -/
import Derived.Test.YtipondhhchicjaaC3
namespace Go.Pch
open Go.RowKit Go.Proofs

set_option maxHeartbeats 400000 in
theorem cloneRow (v : Value) (l : List Row) (S : Blk) (w : World) (h : Sl tRow w S v l) (hl : l.length ≤ 1000000) :
    Calls Try.prog 40 #[v] w (Ret w fun r w' => Sl tRow w' (fun k => w.heap.size ≤ k) r l) := by
  obtain ⟨ao, cap, rfl, hcap, hmax, hnil⟩ := h.shape
  cases ao with
  | none =>
    have h0 := hnil rfl
    obtain rfl : l = [] := List.eq_nil_of_length_eq_zero (by omega)
    subst h0
    have hq := fun W => Lib.run_eql_slice_nil (P := Try.prog) W 22 64 none 0 0 0 0 Try.underlying22
    go_enter Try.func40, Try.ntmps40
    go_wp2
    go_ret
    exact ⟨_, rfl, Sl.nil _ _ _, Below.refl _ _⟩
  | some ad =>
    have hq := fun W => Lib.run_eql_slice_nil (P := Try.prog) W 22 64 (some ad) l.length cap 0 0 Try.underlying22
    have hs := fun W (hW : Below w.heap.size w W) => Src.row (D' := fun _ => False) (h.call hW).src
    go_enter Try.func40, Try.ntmps40
    go_wp2_with (at_builtin; refine wpList_grow rfl (.tmp 5) (.tmp 6) rfl aRow rfl (Own.made (B := w.heap.size) (C := fun _ => False) _ (Nat.le_refl _)) rfl rfl (hs _ ((Below.refl _ _).alloc (Nat.le_refl _) _)) (by simp) (fun _ h => h.elim) (by simp; omega) (by simp) ?_)
    intro v1 w1 hown hgrow
    go_wp2
    go_ret
    exact ⟨_, rfl, hown.sl (fun _ h => h.elim) (fun _ h => h), ((Below.refl _ _).alloc (Nat.le_refl _) _).grown hgrow (by simp) (by simp [Value.ownBlock])⟩

/-- B1: Cut's answer. -/
def cutL (l : List Row) (n : Int) : List (List Row) × Int := if rowsErr l = 0 then (if levB n then (chunks n l, 0) else ([], 3)) else ([], rowsErr l)
/-- B2: Sum's answer. -/
def sumOfL (l : List Row) : Int × Int := if rowsErr l = 0 then (sumL l, 0) else (0, rowsErr l)



set_option maxHeartbeats 400000 in
theorem chunkFirst (v : Value) (l : List Row) (n : Int) (S : Blk) (w : World) (h : Sl tRow w S v l) (hl : l ≠ []) :
    Calls Try.prog 91 #[v, .int .i64 n] w (Ret w fun r _ => r = .int .i64 (cnt n 0 l : Nat)) := by
  have hlp := List.length_pos_iff.2 hl
  have hv := h
  obtain ⟨ao, cap, rfl, hcap, hmax, hnil⟩ := h.shape
  unfold maxLen at hmax
  have h1 : l.length = 1 → cnt n 0 l = 1 := by
    intro e
    have := cnt_cut (n := n) (l := l) (k := 0) (c := 0) (by omega) (by simp [e])
    simpa using this
  have h2 : 2 ≤ l.length → cnt n 0 l = cnt n 1 (l.drop 1) := by
    intro e
    have := cnt_go (n := n) (l := l) (k := 0) (c := 0) (by omega) (by simp; omega)
    simpa using this
  have H1 := keepBack h1
  have H2 := keepBack h2
  clear h1 h2
  go_enter Try.func91, Try.ntmps91
  go_wp2
  · have h6 : 6 < l.length := by omega
    go_loopw [6] (fun i wr => ∃ k : Nat, 2 ≤ k ∧ k ≤ 6 ∧ i = .int .i64 k ∧ Below w.heap.size w wr ∧ Hid (cnt n 0 l = cnt n (k - 1) (l.drop (k - 1)))) (fun i _ => 6 - (intOf i).toNat)
    case atStart => exact ⟨2, by omega, by omega, rfl, Below.refl _ _, H2.out (by omega)⟩
    case round =>
      obtain ⟨k, hk2, hk, rfl, hb, hr⟩ := hrel
      by_cases hlt : k < 6
      · obtain ⟨b, o, hix, _, hbs, ok1, ok2, hc0, hc1⟩ := (hv.call hb).idxRow aRow ((k : Int) - 1) (k - 1) (by omega) (by omega)
        cases hE : endsB l[k - 1] n with
        | true =>
          go_wp2_with (go_at_call 97; refine (chunkEnds _ _ _).mono ?_; rintro e w1 ⟨_, rfl, rfl, hb1⟩)
          go_ret
          exact ⟨_, rfl, by rw [hr.out, cnt_cut (by omega) (by simp [hE]; omega), show k - 1 + 1 = k by omega]; rfl, hb.trans (hb1.mono hb.size)⟩
        | false =>
          go_wp2_with (go_at_call 97; refine (chunkEnds _ _ _).mono ?_; rintro e w1 ⟨_, rfl, rfl, hb1⟩)
          go_roundw
          case rel => exact ⟨k + 1, by omega, by omega, by go_num, hb.trans (hb1.mono hb.size), keepBack (by rw [hr.out, cnt_go (by omega) (by simp [hE]; omega)]; simp only [Nat.add_sub_cancel, show k - 1 + 1 = k by omega])⟩
          case measure => simp [intOf]; omega
      · have h5 : k = 6 := by omega
        have hfin : cnt n 0 l = 6 := by rw [hr.out, h5, cnt_cut (by omega) (by simp)]
        have HF := keepBack hfin
        clear h5 hfin hr
        go_wp2
        go_ret
        exact ⟨_, rfl, by rw [HF.out]; rfl, hb⟩
  · have h6 : l.length ≤ 6 := by omega
    go_loopw [6] (fun i wr => ∃ k : Nat, 2 ≤ k ∧ (k ≤ 2 ∨ k ≤ l.length) ∧ i = .int .i64 k ∧ Below w.heap.size w wr ∧ Hid (2 ≤ l.length → cnt n 0 l = cnt n (k - 1) (l.drop (k - 1)))) (fun i _ => 6 - (intOf i).toNat)
    case atStart => exact ⟨2, by omega, by omega, rfl, Below.refl _ _, H2.out⟩
    case round =>
      obtain ⟨k, hk2, hk, rfl, hb, hr⟩ := hrel
      by_cases hlt : k < l.length
      · obtain ⟨b, o, hix, _, hbs, ok1, ok2, hc0, hc1⟩ := (hv.call hb).idxRow aRow ((k : Int) - 1) (k - 1) (by omega) (by omega)
        cases hE : endsB l[k - 1] n with
        | true =>
          go_wp2_with (go_at_call 97; refine (chunkEnds _ _ _).mono ?_; rintro e w1 ⟨_, rfl, rfl, hb1⟩)
          go_ret
          exact ⟨_, rfl, by rw [hr.out (by omega), cnt_cut (by omega) (by simp [hE]; omega), show k - 1 + 1 = k by omega]; rfl, hb.trans (hb1.mono hb.size)⟩
        | false =>
          go_wp2_with (go_at_call 97; refine (chunkEnds _ _ _).mono ?_; rintro e w1 ⟨_, rfl, rfl, hb1⟩)
          go_roundw
          case rel => exact ⟨k + 1, by omega, by omega, by go_num, hb.trans (hb1.mono hb.size), fun h2 => by rw [hr.out h2, cnt_go (by omega) (by simp [hE]; omega)]; simp only [Nat.add_sub_cancel, show k - 1 + 1 = k by omega]⟩
          case measure => simp [intOf]; omega
      · have hfin : cnt n 0 l = l.length := by
          by_cases e1 : l.length = 1
          · rw [H1.out e1, e1]
          · have e2 : k = l.length := by omega
            rw [hr.out (by omega), cnt_cut (by omega) (by simp; omega)]; omega
        have HF := keepBack hfin
        clear hfin hr
        go_wp2
        go_ret
        exact ⟨_, rfl, by rw [HF.out]; rfl, hb⟩

end Go.Pch
