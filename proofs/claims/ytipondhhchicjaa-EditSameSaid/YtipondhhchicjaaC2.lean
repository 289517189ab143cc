/- The walks of package chunk and of what the document says of chunks: Ends, Sum, comparing. -/
import Derived.Test.YtipondhhchicjaaKeys
import Derived.Test.YtipondhhchicjaaRowT
namespace Go.Pch
open Go.RowKit Go.Proofs

theorem chunkLevel (k : Int) (w : World) : Calls Try.prog 102 #[.int .i64 k] w fun e w' => e = .returned (.bool (levB k)) ∧ w = w' := by
  go_enter Try.func102, Try.ntmps102
  go_wp2
  all_goals
    go_ret
    refine ⟨ret_bool ?_, rfl⟩
    rw [Bool.eq_iff_iff]; simp [levB] <;> omega
theorem chunkLevel_of (k : Int) (w : World) {c : Bool} (h : levB k = c) : Calls Try.prog 102 #[.int .i64 k] w fun e w' => e = .returned (.bool c) ∧ w = w' := h ▸ chunkLevel k w
theorem rowsKey_of (k : Int) (w : World) {c : Bool} (h : keyB k = c) : Calls Try.prog 46 #[.int .i64 k] w fun e w' => e = .returned (.bool c) ∧ w = w' := h ▸ rowsKey k w
theorem rowsVal_of (k : Int) (w : World) {c : Bool} (h : valB k = c) : Calls Try.prog 66 #[.int .i64 k] w fun e w' => e = .returned (.bool c) ∧ w = w' := h ▸ rowsVal k w

set_option maxHeartbeats 400000 in
theorem refEndsOf (r : Row) (n : Int) (w : World) :
    Calls Try.prog 94 #[.agg #[.int .i64 r.1, .int .i64 r.2], .int .i64 n] w (Ret w fun v _ => v = .bool (endsB r n)) := by
  cases hk : keyB r.1 with
  | false =>
    go_enter Try.func94, Try.ntmps94
    go_wp2_with (go_at_call 72; refine (refIsKey_of _ _ hk).mono ?_; rintro e w' ⟨rfl, rfl⟩)
    go_ret
    exact ⟨_, rfl, by rw [endsB_key hk]; rfl, (Below.refl _ _).alloc (Nat.le_refl _) _⟩
  | true =>
    have hk' := key_yes hk
    cases hv : (decide (0 ≤ r.2) && decide (r.2 ≤ 996)) with
    | false =>
      go_enter Try.func94, Try.ntmps94
      go_wp2_with (first | (go_at_call 72; refine (refIsKey_of _ _ hk).mono ?_; rintro e w' ⟨rfl, rfl⟩) | (go_at_call 73; refine (refWithin_of _ _ _ _ hv).mono ?_; rintro e w' ⟨rfl, rfl⟩))
      go_ret
      exact ⟨_, rfl, by rw [endsB_val hv]; rfl, (Below.refl _ _).alloc (Nat.le_refl _) _⟩
    | true =>
      have hv' := hv
      simp only [Bool.and_eq_true, decide_eq_true_eq] at hv'
      obtain ⟨hv1, hv2⟩ := hv'
      cases hn : levB n with
      | false =>
        go_enter Try.func94, Try.ntmps94
        go_wp2_with fail
        refine (refIsKey_of _ _ hk).mono ?_; rintro e w' ⟨rfl, rfl⟩
        go_wp2_with fail
        refine (refWithin_of _ _ _ _ hv).mono ?_; rintro e w' ⟨rfl, rfl⟩
        go_wp2_with fail
        refine (refWithin_of _ _ _ _ hn).mono ?_; rintro e w' ⟨rfl, rfl⟩
        go_wp2_with fail
        go_ret
        exact ⟨_, rfl, by rw [endsB_lev hn]; rfl, (Below.refl _ _).alloc (Nat.le_refl _) _⟩
      | true =>
        have hn' := hn
        simp only [levB, Bool.and_eq_true, decide_eq_true_eq] at hn'
        obtain ⟨hn1, hn2⟩ := hn'
        go_enter Try.func94, Try.ntmps94
        go_wp2_with fail
        refine (refIsKey_of _ _ hk).mono ?_; rintro e w' ⟨rfl, rfl⟩
        go_wp2_with fail
        refine (refWithin_of _ _ _ _ hv).mono ?_; rintro e w' ⟨rfl, rfl⟩
        go_wp2_with fail
        refine (refWithin_of _ _ _ _ hn).mono ?_; rintro e w' ⟨rfl, rfl⟩
        go_wp2_with fail
        go_ret
        exact ⟨_, rfl, by rw [endsB_go hk hv hn]; rfl, (Below.refl _ _).alloc (Nat.le_refl _) _⟩

set_option maxHeartbeats 400000 in
theorem chunkEnds (r : Row) (n : Int) (w : World) :
    Calls Try.prog 97 #[.agg #[.int .i64 r.1, .int .i64 r.2], .int .i64 n] w (Ret w fun v _ => v = .bool (endsB r n)) := by
  cases hk : keyB r.1 with
  | false =>
    go_enter Try.func97, Try.ntmps97
    go_wp2_with (go_at_call 46; refine (rowsKey_of _ _ hk).mono ?_; rintro e w' ⟨rfl, rfl⟩)
    go_ret
    exact ⟨_, rfl, by rw [endsB_key hk]; rfl, (Below.refl _ _).alloc (Nat.le_refl _) _⟩
  | true =>
    have hk' := key_yes hk
    cases hv : (decide (0 ≤ r.2) && decide (r.2 ≤ 996)) with
    | false =>
      by_cases hm : r.2 = -1
      · have hm' : (r.2 == -1) = true := by simp [hm]
        have hm2 : (r.2 != -1) = false := by simp [hm]
        clear hm
        go_enter Try.func97, Try.ntmps97
        go_wp2_with (go_at_call 46; refine (rowsKey_of _ _ hk).mono ?_; rintro e w' ⟨rfl, rfl⟩)
        go_ret
        exact ⟨_, rfl, by rw [endsB_val hv]; rfl, (Below.refl _ _).alloc (Nat.le_refl _) _⟩
      · have hm' : (r.2 == -1) = false := by simp [hm]
        have hm2 : (r.2 != -1) = true := by simp [hm]
        have hvv : valB r.2 = false := by
          simp only [Bool.and_eq_false_iff, decide_eq_false_iff_not] at hv
          simp only [valB, Bool.and_eq_false_iff, decide_eq_false_iff_not]; omega
        go_enter Try.func97, Try.ntmps97
        go_wp2_with (first | (go_at_call 46; refine (rowsKey_of _ _ hk).mono ?_; rintro e w' ⟨rfl, rfl⟩) | (go_at_call 66; refine (rowsVal_of _ _ hvv).mono ?_; rintro e w' ⟨rfl, rfl⟩))
        go_ret
        exact ⟨_, rfl, by rw [endsB_val hv]; rfl, (Below.refl _ _).alloc (Nat.le_refl _) _⟩
    | true =>
      have hv' := hv
      simp only [Bool.and_eq_true, decide_eq_true_eq] at hv'
      obtain ⟨hv1, hv2⟩ := hv'
      have hm' : (r.2 == -1) = false := by simp; omega
      have hm2 : (r.2 != -1) = true := by simp; omega
      have hvv : valB r.2 = true := by simp [valB]; omega
      cases hn : levB n with
      | false =>
        go_enter Try.func97, Try.ntmps97
        go_wp2_with (first | (go_at_call 46; refine (rowsKey_of _ _ hk).mono ?_; rintro e w' ⟨rfl, rfl⟩) | (go_at_call 66; refine (rowsVal_of _ _ hvv).mono ?_; rintro e w' ⟨rfl, rfl⟩) | (go_at_call 102; refine (chunkLevel_of _ _ hn).mono ?_; rintro e w' ⟨rfl, rfl⟩))
        go_ret
        exact ⟨_, rfl, by rw [endsB_lev hn]; rfl, (Below.refl _ _).alloc (Nat.le_refl _) _⟩
      | true =>
        have hn' := hn
        simp only [levB, Bool.and_eq_true, decide_eq_true_eq] at hn'
        obtain ⟨hn1, hn2⟩ := hn'
        go_enter Try.func97, Try.ntmps97
        go_wp2_with (first | (go_at_call 46; refine (rowsKey_of _ _ hk).mono ?_; rintro e w' ⟨rfl, rfl⟩) | (go_at_call 66; refine (rowsVal_of _ _ hvv).mono ?_; rintro e w' ⟨rfl, rfl⟩) | (go_at_call 102; refine (chunkLevel_of _ _ hn).mono ?_; rintro e w' ⟨rfl, rfl⟩))
        go_ret
        exact ⟨_, rfl, by rw [endsB_go hk hv hn]; rfl, (Below.refl _ _).alloc (Nat.le_refl _) _⟩

set_option maxHeartbeats 400000 in
theorem chunkOf (v : Value) (l : List Row) (S : Blk) (w : World) (h : Sl tRow w S v l) (hf : fineB l = true) :
    Calls Try.prog 92 #[v] w (Ret w fun r _ => r = .int .i64 (sumL l)) := by
  obtain ⟨ao, cap, rfl, hcap, hmax, hnil⟩ := h.shape
  unfold maxLen at hmax
  go_enter Try.func92, Try.ntmps92
  go_wp2
  go_loopw [3, 8] (fun n i wr => ∃ (k : Nat) (m : Int), k ≤ l.length ∧ i = .int .i64 k ∧ n = .int .i64 m ∧ 0 ≤ m ∧ m ≤ 996 ∧ Below w.heap.size w wr ∧ Hid (m = (l.take k).foldl sumStep 1)) (fun _ i _ => l.length - (intOf i).toNat)
  case atStart => exact ⟨0, 1, Nat.zero_le _, rfl, rfl, by omega, by omega, Below.refl _ _, rfl⟩
  case round =>
    obtain ⟨k, m, hk, rfl, rfl, hm0, hm1, hb, hm⟩ := hrel
    by_cases hlt : k < l.length
    · obtain ⟨b, o, hix, _, hbs, ok1, ok2, hc0, hc1⟩ := (h.call hb).idxRow aRow k k rfl hlt
      have hfi := fine_get hf hlt
      go_wp2
      go_roundw
      case rel => exact ⟨k + 1, _, by omega, by go_num, rfl, by omega, by omega, hb.alloc hb.size _, by rw [fold_take hlt, ← hm.out]; rfl⟩
      case measure => simp [intOf]; omega
    · go_wp2
      go_ret
      exact ⟨_, rfl, by rw [hm.out, List.take_of_length_le (by omega)]; rfl, hb⟩

set_option maxHeartbeats 400000 in
theorem refSum (v : Value) (l : List Row) (S : Blk) (w : World) (h : Sl tRow w S v l) (hf : fineB l = true) :
    Calls Try.prog 82 #[v] w (Quiet w (.int .i64 (sumL l))) := by
  obtain ⟨ao, cap, rfl, hcap, hmax, hnil⟩ := h.shape
  unfold maxLen at hmax
  go_enter Try.func82, Try.ntmps82
  go_wp2
  go_loopw [3, 4] (fun n i wr => ∃ (k : Nat) (m : Int), k ≤ l.length ∧ i = .int .i64 k ∧ n = .int .i64 m ∧ 0 ≤ m ∧ m ≤ 996 ∧ Drawn w wr ∧ Hid (m = (l.take k).foldl sumStep 1)) (fun _ i _ => l.length - (intOf i).toNat)
  case atStart => exact ⟨0, 1, Nat.zero_le _, rfl, rfl, by omega, by omega, .refl _, rfl⟩
  case round =>
    obtain ⟨k, m, hk, rfl, rfl, hm0, hm1, hd, hm⟩ := hrel
    by_cases hlt : k < l.length
    · obtain ⟨b, o, hix, _, hbs, ok1, ok2, hc0, hc1⟩ := (h.call hd.below).idxRow aRow k k rfl hlt
      have hfi := fine_get hf hlt
      go_wp2
      go_quiet (fail)
      go_wp2
      go_roundw
      case rel => exact ⟨k + 1, _, by omega, by go_num, rfl, by omega, by omega, hd.next _, by rw [fold_take hlt, ← hm.out]; rfl⟩
      case measure => simp [intOf]; omega
    · go_wp2
      go_ret
      exact ⟨by rw [hm.out, List.take_of_length_le (by omega)]; rfl, hd⟩

set_option maxRecDepth 100000 in
set_option maxHeartbeats 400000 in
theorem refSameRows (v u : Value) (l m : List Row) (S S' : Blk) (w : World) (h : Sl tRow w S v l) (g : Sl tRow w S' u m) :
    Calls Try.prog 17 #[v, u] w (Quiet w (.bool (decide (l = m)))) := by
  obtain ⟨ao, cap, rfl, hcap, hmax, hnil⟩ := h.shape
  obtain ⟨ao', cap', rfl, hcap', hmax', hnil'⟩ := g.shape
  unfold maxLen at hmax hmax'
  by_cases he : l.length = m.length
  · have hne : (((l.length : Nat) : Int) != (m.length : Int)) = false := by simp [he]
    have hl1 : l.length ≤ m.length := by omega
    have hl2 : m.length ≤ l.length := by omega
    clear he
    go_enter Try.func17, Try.ntmps17
    go_wp2
    go_loopw [5] (fun i wr => ∃ (k : Nat), k ≤ l.length ∧ i = .int .i64 k ∧ Drawn w wr ∧ Hid (l.take k = m.take k)) (fun i _ => l.length - (intOf i).toNat)
    case atStart => exact ⟨0, Nat.zero_le _, rfl, .refl _, rfl⟩
    case round =>
      obtain ⟨k, hk, rfl, hd, hm⟩ := hrel
      by_cases hlt : k < l.length
      · obtain ⟨b, o, hix, _, hbs, ok1, ok2, hc0, hc1⟩ := (h.call hd.below).idxRow aRow k k rfl hlt
        obtain ⟨b', o', hix', _, hbs', ok1', ok2', hc0', hc1'⟩ := (g.call hd.below).idxRow aRow k k rfl (by omega)
        have hg := rowGuard
        have he := rowEqual l[k].1 l[k].2 m[k].1 m[k].2
        go_wp2
        go_quiet (fail)
        go_wp2
        · have hx : (!decide (l[k].1 = m[k].1)) = true ∨ (!decide (l[k].2 = m[k].2)) = true := by assumption
          go_ret
          refine ⟨ret_no fun e => ?_, hd.next _⟩
          subst e
          simp at hx
        · have hx : (!decide (l[k].1 = m[k].1)) = false ∧ (!decide (l[k].2 = m[k].2)) = false := by assumption
          go_roundw
          case rel => exact ⟨k + 1, by omega, by go_num, hd.next _, take_more hlt (by omega) hm.out (by simp at hx; exact Prod.ext hx.1 hx.2)⟩
          case measure => simp [intOf]; omega
      · go_wp2
        go_ret
        exact ⟨ret_yes (take_all hlt hl1 hl2 hm.out), hd⟩
  · have hne : (((l.length : Nat) : Int) != (m.length : Int)) = true := by simp; omega
    go_enter Try.func17, Try.ntmps17
    go_wp2
    go_ret
    exact ⟨ret_no fun e => he (by rw [e]), .refl _⟩

end Go.Pch
