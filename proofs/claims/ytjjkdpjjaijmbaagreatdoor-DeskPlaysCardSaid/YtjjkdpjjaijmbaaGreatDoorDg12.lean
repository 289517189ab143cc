/- The walks of package chunk and of what the document says of chunks: Ends, Sum, comparing. The walks of cmp.Compare, of the binary search of rows, and of rows.Seek, Of, Find. The walk of slices.Sort at one int, and at two. The walk of slices.Sort at one int, and at two. -/
import Derived.Test.YtjjkdpjjaijmbaaGreatDoorDg11
import Derived.Test.YtjjkdpjjaijmbaaGreatDoorDg2
import Derived.Test.YtjjkdpjjaijmbaaGreatDoorDg6
import Derived.Test.YtjjkdpjjaijmbaaGreatDoorDg5
import Derived.Lib.BitFns
section
namespace Go.Pch
open Go.RowKit Go.Proofs
theorem chunkLevel (k : Int) (w : World) : Calls Tryz.prog 193 #[.int .i64 k] w fun e w' => e = .returned (.bool (levB k)) ∧ w = w' := by
  go_enter Tryz.func193, Tryz.ntmps193
  go_wp2
  all_goals
    go_ret
    refine ⟨ret_bool ?_, rfl⟩
    rw [Bool.eq_iff_iff]; simp [levB] <;> omega
theorem chunkLevel_of (k : Int) (w : World) {c : Bool} (h : levB k = c) : Calls Tryz.prog 193 #[.int .i64 k] w fun e w' => e = .returned (.bool c) ∧ w = w' := h ▸ chunkLevel k w
theorem rowsKey_of (k : Int) (w : World) {c : Bool} (h : keyB k = c) : Calls Tryz.prog 97 #[.int .i64 k] w fun e w' => e = .returned (.bool c) ∧ w = w' := h ▸ rowsKey k w
theorem rowsVal_of (k : Int) (w : World) {c : Bool} (h : valB k = c) : Calls Tryz.prog 98 #[.int .i64 k] w fun e w' => e = .returned (.bool c) ∧ w = w' := h ▸ rowsVal k w
set_option maxHeartbeats 400000 in
theorem refEndsOf (r : Row) (n : Int) (w : World) :
    Calls Tryz.prog 119 #[.agg #[.int .i64 r.1, .int .i64 r.2], .int .i64 n] w (Ret w fun v _ => v = .bool (endsB r n)) := by
  cases hk : keyB r.1 with
  | false =>
    go_enter Tryz.func119, Tryz.ntmps119
    go_wp2_with (go_at_call 76; refine (refIsKey_of _ _ hk).mono ?_; rintro e w' ⟨rfl, rfl⟩)
    go_ret
    exact ⟨_, rfl, by rw [endsB_key hk]; rfl, (Below.refl _ _).alloc (Nat.le_refl _) _⟩
  | true =>
    have hk' := key_yes hk
    cases hv : (decide (0 ≤ r.2) && decide (r.2 ≤ 996)) with
    | false =>
      go_enter Tryz.func119, Tryz.ntmps119
      go_wp2_with (first | (go_at_call 76; refine (refIsKey_of _ _ hk).mono ?_; rintro e w' ⟨rfl, rfl⟩) | (go_at_call 75; refine (refWithin_of _ _ _ _ hv).mono ?_; rintro e w' ⟨rfl, rfl⟩))
      go_ret
      exact ⟨_, rfl, by rw [endsB_val hv]; rfl, (Below.refl _ _).alloc (Nat.le_refl _) _⟩
    | true =>
      have hv' := hv
      simp only [Bool.and_eq_true, decide_eq_true_eq] at hv'
      obtain ⟨hv1, hv2⟩ := hv'
      cases hn : levB n with
      | false =>
        go_enter Tryz.func119, Tryz.ntmps119
        go_wp2_with fail
        refine (refIsKey_of _ _ hk).mono ?_; rintro e w' ⟨rfl, rfl⟩
        go_wp2_with fail
        refine (refWithin_of _ _ _ _ hv).mono ?_; rintro e w' ⟨rfl, rfl⟩
        go_wp2_with fail
        refine (refWithin_of _ _ _ _ hn).mono ?_; rintro e w' ⟨rfl, rfl⟩
        go_wp2_with fail
        go_ret
        exact ⟨_, rfl, by rw [endsB_lev hn]; rfl, (Below.refl _ _).alloc (Nat.le_refl _) _⟩
      | true =>
        have hn' := hn
        simp only [levB, Bool.and_eq_true, decide_eq_true_eq] at hn'
        obtain ⟨hn1, hn2⟩ := hn'
        go_enter Tryz.func119, Tryz.ntmps119
        go_wp2_with fail
        refine (refIsKey_of _ _ hk).mono ?_; rintro e w' ⟨rfl, rfl⟩
        go_wp2_with fail
        refine (refWithin_of _ _ _ _ hv).mono ?_; rintro e w' ⟨rfl, rfl⟩
        go_wp2_with fail
        refine (refWithin_of _ _ _ _ hn).mono ?_; rintro e w' ⟨rfl, rfl⟩
        go_wp2_with fail
        go_ret
        exact ⟨_, rfl, by rw [endsB_go hk hv hn]; rfl, (Below.refl _ _).alloc (Nat.le_refl _) _⟩
set_option maxHeartbeats 400000 in
theorem chunkEnds (r : Row) (n : Int) (w : World) :
    Calls Tryz.prog 178 #[.agg #[.int .i64 r.1, .int .i64 r.2], .int .i64 n] w (Ret w fun v _ => v = .bool (endsB r n)) := by
  cases hk : keyB r.1 with
  | false =>
    go_enter Tryz.func178, Tryz.ntmps178
    go_wp2_with (go_at_call 97; refine (rowsKey_of _ _ hk).mono ?_; rintro e w' ⟨rfl, rfl⟩)
    go_ret
    exact ⟨_, rfl, by rw [endsB_key hk]; rfl, (Below.refl _ _).alloc (Nat.le_refl _) _⟩
  | true =>
    have hk' := key_yes hk
    cases hv : (decide (0 ≤ r.2) && decide (r.2 ≤ 996)) with
    | false =>
      by_cases hm : r.2 = -1
      · have hm' : (r.2 == -1) = true := by simp [hm]
        have hm2 : (r.2 != -1) = false := by simp [hm]
        clear hm
        go_enter Tryz.func178, Tryz.ntmps178
        go_wp2_with (go_at_call 97; refine (rowsKey_of _ _ hk).mono ?_; rintro e w' ⟨rfl, rfl⟩)
        go_ret
        exact ⟨_, rfl, by rw [endsB_val hv]; rfl, (Below.refl _ _).alloc (Nat.le_refl _) _⟩
      · have hm' : (r.2 == -1) = false := by simp [hm]
        have hm2 : (r.2 != -1) = true := by simp [hm]
        have hvv : valB r.2 = false := by
          simp only [Bool.and_eq_false_iff, decide_eq_false_iff_not] at hv
          simp only [valB, Bool.and_eq_false_iff, decide_eq_false_iff_not]; omega
        go_enter Tryz.func178, Tryz.ntmps178
        go_wp2_with (first | (go_at_call 97; refine (rowsKey_of _ _ hk).mono ?_; rintro e w' ⟨rfl, rfl⟩) | (go_at_call 98; refine (rowsVal_of _ _ hvv).mono ?_; rintro e w' ⟨rfl, rfl⟩))
        go_ret
        exact ⟨_, rfl, by rw [endsB_val hv]; rfl, (Below.refl _ _).alloc (Nat.le_refl _) _⟩
    | true =>
      have hv' := hv
      simp only [Bool.and_eq_true, decide_eq_true_eq] at hv'
      obtain ⟨hv1, hv2⟩ := hv'
      have hm' : (r.2 == -1) = false := by simp; omega
      have hm2 : (r.2 != -1) = true := by simp; omega
      have hvv : valB r.2 = true := by simp [valB]; omega
      cases hn : levB n with
      | false =>
        go_enter Tryz.func178, Tryz.ntmps178
        go_wp2_with (first | (go_at_call 97; refine (rowsKey_of _ _ hk).mono ?_; rintro e w' ⟨rfl, rfl⟩) | (go_at_call 98; refine (rowsVal_of _ _ hvv).mono ?_; rintro e w' ⟨rfl, rfl⟩) | (go_at_call 193; refine (chunkLevel_of _ _ hn).mono ?_; rintro e w' ⟨rfl, rfl⟩))
        go_ret
        exact ⟨_, rfl, by rw [endsB_lev hn]; rfl, (Below.refl _ _).alloc (Nat.le_refl _) _⟩
      | true =>
        have hn' := hn
        simp only [levB, Bool.and_eq_true, decide_eq_true_eq] at hn'
        obtain ⟨hn1, hn2⟩ := hn'
        go_enter Tryz.func178, Tryz.ntmps178
        go_wp2_with (first | (go_at_call 97; refine (rowsKey_of _ _ hk).mono ?_; rintro e w' ⟨rfl, rfl⟩) | (go_at_call 98; refine (rowsVal_of _ _ hvv).mono ?_; rintro e w' ⟨rfl, rfl⟩) | (go_at_call 193; refine (chunkLevel_of _ _ hn).mono ?_; rintro e w' ⟨rfl, rfl⟩))
        go_ret
        exact ⟨_, rfl, by rw [endsB_go hk hv hn]; rfl, (Below.refl _ _).alloc (Nat.le_refl _) _⟩
set_option maxHeartbeats 400000 in
theorem chunkOf (v : Value) (l : List Row) (S : Blk) (w : World) (h : Sl tRow w S v l) (hf : fineB l = true) :
    Calls Tryz.prog 109 #[v] w (Ret w fun r _ => r = .int .i64 (sumL l)) := by
  obtain ⟨ao, cap, rfl, hcap, hmax, hnil⟩ := h.shape
  unfold maxLen at hmax
  go_enter Tryz.func109, Tryz.ntmps109
  go_wp2
  go_loopw [3, 8] (fun n i wr => ∃ (k : Nat) (m : Int), k ≤ l.length ∧ i = .int .i64 k ∧ n = .int .i64 m ∧ 0 ≤ m ∧ m ≤ 996 ∧ Below w.heap.size w wr ∧ Hid (m = (l.take k).foldl sumStep 1)) (fun _ i _ => l.length - (intOf i).toNat)
  case atStart => exact ⟨0, 1, Nat.zero_le _, rfl, rfl, by omega, by omega, Below.refl _ _, rfl⟩
  case round =>
    obtain ⟨k, m, hk, rfl, rfl, hm0, hm1, hb, hm⟩ := hrel
    by_cases hlt : k < l.length
    · obtain ⟨b, o, hix, _, hbs, ok1, ok2, hc0, hc1⟩ := (h.call hb).idxRow aRow k k rfl hlt
      have hfi := fine_get hf hlt
      go_wp2
      go_roundw
      case rel => exact ⟨k + 1, _, by omega, by go_num, rfl, by omega, by omega, hb.alloc hb.size _, by rw [fold_take hlt, ← hm.out]; rfl⟩
      case measure => simp [intOf]; omega
    · go_wp2
      go_ret
      exact ⟨_, rfl, by rw [hm.out, List.take_of_length_le (by omega)]; rfl, hb⟩
set_option maxHeartbeats 400000 in
theorem refSum (v : Value) (l : List Row) (S : Blk) (w : World) (h : Sl tRow w S v l) (hf : fineB l = true) :
    Calls Tryz.prog 87 #[v] w (Quiet w (.int .i64 (sumL l))) := by
  obtain ⟨ao, cap, rfl, hcap, hmax, hnil⟩ := h.shape
  unfold maxLen at hmax
  go_enter Tryz.func87, Tryz.ntmps87
  go_wp2
  go_loopw [3, 4] (fun n i wr => ∃ (k : Nat) (m : Int), k ≤ l.length ∧ i = .int .i64 k ∧ n = .int .i64 m ∧ 0 ≤ m ∧ m ≤ 996 ∧ Drawn w wr ∧ Hid (m = (l.take k).foldl sumStep 1)) (fun _ i _ => l.length - (intOf i).toNat)
  case atStart => exact ⟨0, 1, Nat.zero_le _, rfl, rfl, by omega, by omega, .refl _, rfl⟩
  case round =>
    obtain ⟨k, m, hk, rfl, rfl, hm0, hm1, hd, hm⟩ := hrel
    by_cases hlt : k < l.length
    · obtain ⟨b, o, hix, _, hbs, ok1, ok2, hc0, hc1⟩ := (h.call hd.below).idxRow aRow k k rfl hlt
      have hfi := fine_get hf hlt
      go_wp2
      go_quiet (fail)
      go_wp2
      go_roundw
      case rel => exact ⟨k + 1, _, by omega, by go_num, rfl, by omega, by omega, hd.next _, by rw [fold_take hlt, ← hm.out]; rfl⟩
      case measure => simp [intOf]; omega
    · go_wp2
      go_ret
      exact ⟨by rw [hm.out, List.take_of_length_le (by omega)]; rfl, hd⟩
end Go.Pch
end

section
namespace Go.Pch
open Go.RowKit Go.Proofs
def cmpI (a b : Int) : Int := if a < b then -1 else if b < a then 1 else 0
theorem notNaN (a : Int) (w : World) : Calls Tryz.prog 184 #[.int .i64 a] w fun e w' => e = .returned (.bool false) ∧ w = w' := by
  have h : (a != a) = false := by simp
  go_enter Tryz.func184, Tryz.ntmps184
  go_wp2
  go_ret
  exact ⟨rfl, rfl⟩
theorem compareInt (a b : Int) (w : World) : Calls Tryz.prog 164 #[.int .i64 a, .int .i64 b] w fun e w' => e = .returned (.int .i64 (cmpI a b)) ∧ w = w' := by
  rcases Int.lt_trichotomy a b with h | h | h
  · have hc : cmpI a b = -1 := by rw [cmpI, if_pos h]
    rw [hc]
    go_enter Tryz.func164, Tryz.ntmps164
    go_wp2_with (go_at_call 184; refine (notNaN _ _).mono ?_; rintro e w' ⟨rfl, rfl⟩)
    go_ret
    exact ⟨rfl, rfl⟩
  · subst h
    have hc : cmpI a a = 0 := by rw [cmpI, if_neg (by omega), if_neg (by omega)]
    rw [hc]
    go_enter Tryz.func164, Tryz.ntmps164
    go_wp2_with (go_at_call 184; refine (notNaN _ _).mono ?_; rintro e w' ⟨rfl, rfl⟩)
    go_ret
    exact ⟨rfl, rfl⟩
  · have h' : ¬ a < b := by omega
    have hc : cmpI a b = 1 := by rw [cmpI, if_neg h', if_pos h]
    rw [hc]
    go_enter Tryz.func164, Tryz.ntmps164
    go_wp2_with (go_at_call 184; refine (notNaN _ _).mono ?_; rintro e w' ⟨rfl, rfl⟩)
    go_ret
    exact ⟨rfl, rfl⟩
theorem seek1 (a b key : Int) (w : World) : Calls Tryz.prog 163 #[.agg #[.int .i64 a, .int .i64 b], .int .i64 key] w (Ret w fun r _ => r = .int .i64 (cmpI a key)) := by
  go_enter Tryz.func163, Tryz.ntmps163
  go_wp2_with (go_at_call 164; refine (compareInt _ _ _).mono ?_; rintro e w' ⟨rfl, rfl⟩)
  go_ret
  exact ⟨_, rfl, rfl, (Below.refl _ _).alloc (Nat.le_refl _) _⟩
set_option maxRecDepth 100000 in
set_option maxHeartbeats 1000000 in
theorem searchRows (v : Value) (l : List Row) (key : Int) (S : Blk) (w : World) (h : Sl tRow w S v l) (hr : riseB (-1) l = true) (hl : l.length ≤ 1000000) :
    Calls Tryz.prog 162 #[v, .int .i64 key, .func (.func 163) #[] #[]] w (Ret w fun r _ => r = .tuple #[.int .i64 (seekN l key : Nat), .bool (hasB l key)]) := by
  have hv := h.old
  obtain ⟨ao, cap, rfl, hcap, hmax, hnil⟩ := h.shape
  unfold maxLen at hmax
  have HR := keepBack hr
  clear hr
  go_enter Tryz.func162, Tryz.ntmps162
  go_wp2
  go_loopw [9, 10] (fun a b wr => ∃ (i j : Nat), i ≤ j ∧ j ≤ l.length ∧ a = .int .i64 i ∧ b = .int .i64 j ∧ Below w.heap.size w wr ∧ Hid (∀ (k : Nat) (hk : k < l.length), k < i → l[k].1 < key) ∧ Hid (∀ (k : Nat) (hk : k < l.length), j ≤ k → key ≤ l[k].1)) (fun a b _ => (intOf b).toNat - (intOf a).toNat)
  case atStart => exact ⟨0, l.length, Nat.zero_le _, Nat.le_refl _, rfl, rfl, Below.refl _ _, fun k _ h => by omega, fun k hk h => by omega⟩
  case round =>
    obtain ⟨i, j, hij, hjl, rfl, rfl, hb, H1, H2⟩ := hrel
    have hs := hb.size
    by_cases hlt : i < j
    · obtain ⟨m, hmm, hm1, hm2⟩ : ∃ m : Nat, ((i : Int) + (j : Int)) / 2 = (m : Int) ∧ i ≤ m ∧ m < j := ⟨(i + j) / 2, by omega, by omega, by omega⟩
      have hml : m < l.length := by omega
      obtain ⟨b, o, hix, _, hbs, ok1, ok2, hc0, hc1⟩ := (hv.below hb).idxRow aRow m m rfl hml
      have HLo := keepBack (fun (hlo : l[m].1 < key) (k : Nat) (hk : k < l.length) (hkm : k < m + 1) => show l[k].1 < key by
        have hr := HR.out
        rcases Nat.lt_or_ge k m with h1 | h1
        · have := rise_lt hr h1 hml; omega
        · obtain rfl : k = m := by omega
          exact hlo)
      have HHi := keepBack (fun (hhi : key ≤ l[m].1) (k : Nat) (hk : k < l.length) (hkm : m ≤ k) => show key ≤ l[k].1 by
        have hr := HR.out
        rcases Nat.lt_or_ge m k with h1 | h1
        · have := rise_lt hr h1 hk; omega
        · obtain rfl : k = m := by omega
          exact hhi)
      generalize l[m] = r at *
      by_cases hlo : r.1 < key
      · have HC := keepBack (show cmpI r.1 key = -1 by rw [cmpI, if_pos hlo])
        have H1' := keepBack (HLo.out hlo)
        clear hlo
        go_wp2_with fail
        refine (seek1 _ _ _ _).mono ?_; rintro e w1 ⟨_, rfl, rfl, b1⟩
        rw [HC.out]
        go_wp2
        go_roundw
        case rel => exact ⟨m + 1, j, by omega, hjl, by go_num, rfl, hb.trans (b1.mono hs), H1', H2⟩
        case measure => simp [intOf]; omega
      · have HC := keepBack (show 0 ≤ cmpI r.1 key by rw [cmpI, if_neg hlo]; split <;> omega)
        have H2' := keepBack (HHi.out (by omega))
        clear hlo
        go_wp2_with fail
        refine (seek1 _ _ _ _).mono ?_; rintro e w1 ⟨_, rfl, rfl, b1⟩
        have hc' := HC.out
        generalize cmpI r.1 key = c at *
        go_wp2
        go_roundw
        case rel => exact ⟨i, m, hm1, by omega, rfl, rfl, hb.trans (b1.mono hs), H1, H2'⟩
        case measure => simp [intOf]; omega
    · obtain rfl : i = j := by omega
      have hsk := seekN_eq HR.out hjl H1.out H2.out
      by_cases hil : i < l.length
      · obtain ⟨b, o, hix, _, hbs, ok1, ok2, hc0, hc1⟩ := (hv.below hb).idxRow aRow i i rfl hil
        have HB := keepBack (show hasB l key = decide (l[i].1 = key) by rw [hasB, hsk, List.getElem?_eq_getElem hil])
        have HS := keepBack hsk
        clear hsk
        generalize l[i] = r at *
        have HQ : Hid ((cmpI r.1 key == 0) = decide (r.1 = key)) := keepBack (by
          rw [Bool.eq_iff_iff]
          simp only [beq_iff_eq, decide_eq_true_eq, cmpI]
          split
          · omega
          · split <;> omega)
        go_wp2_with fail
        refine (seek1 _ _ _ _).mono ?_; rintro e w1 ⟨_, rfl, rfl, b1⟩
        go_wp2
        go_ret2
        exact ⟨_, rfl, by rw [HS.out, HB.out, ← HQ.out]; rfl, hb.trans (b1.mono hs)⟩
      · obtain rfl : i = l.length := by omega
        have HB := keepBack (show hasB l key = false by rw [hasB, hsk, List.getElem?_eq_none (Nat.le_refl _)])
        have HS := keepBack hsk
        clear hsk
        go_wp2
        go_ret2
        exact ⟨_, rfl, by rw [HS.out, HB.out]; rfl, hb⟩
theorem rowsSeek (v : Value) (l : List Row) (key : Int) (S : Blk) (w : World) (h : Sl tRow w S v l) (hr : riseB (-1) l = true) (hl : l.length ≤ 1000000) :
    Calls Tryz.prog 128 #[v, .int .i64 key] w (Ret w fun r _ => r = .tuple #[.int .i64 (seekN l key : Nat), .bool (hasB l key)]) := by
  go_enter Tryz.func128, Tryz.ntmps128
  go_wp2_with fail
  refine (searchRows v l key S w h hr hl).mono ?_; rintro e w1 ⟨_, rfl, rfl, b1⟩
  go_wp2
  go_ret2
  exact ⟨_, rfl, rfl, b1⟩
theorem rowsOf (v : Value) (l : List Row) (key : Int) (S : Blk) (w : World) (h : Sl tRow w S v l) (hr : riseB (-1) l = true) (hl : l.length ≤ 1000000) :
    Calls Tryz.prog 99 #[v, .int .i64 key] w (Ret w fun r _ => r = .int .i64 (valueOf l key)) := by
  cases hk : hasB l key with
  | true =>
    obtain ⟨r, hr1, hr2, hr3⟩ := valueOf_has hr hk
    obtain ⟨hlt, hget⟩ := List.getElem?_eq_some_iff.1 hr1
    have HV := keepBack hr3
    have hsk := rowsSeek v l key S w h hr hl
    rw [hk] at hsk
    have hv := h.old
    obtain ⟨ao, cap, rfl, hcap, hmax, hnil⟩ := h.shape
    obtain ⟨b, o, hix, _, hbs, ok1, ok2, hc0, hc1⟩ := hv.idxRow aRow (seekN l key : Nat) (seekN l key) rfl hlt
    rw [hget] at hc0 hc1
    clear hget hr1 hr3 hr2
    generalize seekN l key = n at *
    go_enter Tryz.func99, Tryz.ntmps99
    go_wp2_with fail
    refine hsk.mono ?_; rintro e w1 ⟨_, rfl, rfl, b1⟩
    have hc1' := (b1.cell (p := ⟨b, o + 1, none⟩) hbs).trans hc1
    go_wp2
    go_ret
    exact ⟨_, rfl, by rw [HV.out]; rfl, b1⟩
  | false =>
    have HV := keepBack (valueOf_hasnt hr hk)
    have hsk := rowsSeek v l key S w h hr hl
    rw [hk] at hsk
    go_enter Tryz.func99, Tryz.ntmps99
    go_wp2_with fail
    refine hsk.mono ?_; rintro e w1 ⟨_, rfl, rfl, b1⟩
    go_wp2
    go_ret
    exact ⟨_, rfl, by rw [HV.out]; rfl, b1⟩
end Go.Pch
end

section
namespace Go.Pch
open Go.RowKit Go.Proofs
set_option maxRecDepth 100000
theorem cmpLess (a b : Int) (w : World) : Calls Tryz.prog 204 #[.int .i64 a, .int .i64 b] w fun e w' => e = .returned (.bool (decide (a < b))) ∧ w = w' := by
  go_enter Tryz.func204, Tryz.ntmps204
  go_wp2_with (go_at_call 184; refine (notNaN _ _).mono ?_; rintro e w' ⟨rfl, rfl⟩)
  go_ret
  exact ⟨rfl, rfl⟩
theorem cmpLess_of {c : Bool} (a b : Int) (w : World) (h : decide (a < b) = c) : Calls Tryz.prog 204 #[.int .i64 a, .int .i64 b] w fun e w' => e = .returned (.bool c) ∧ w = w' := h ▸ cmpLess a b w
theorem bitsLen64 (n : Int) (hn : n = 1 ∨ n = 2) (w : World) : Calls Tryz.prog 152 #[.int .u64 n] w fun e w' => ∃ m : Int, e = .returned (.int .i64 m) ∧ w = w' := by
  rcases hn with rfl | rfl
  · go_enter Tryz.func152, Tryz.ntmps152
    go_wp2
    go_ret
    exact ⟨_, rfl, rfl⟩
  · go_enter Tryz.func152, Tryz.ntmps152
    go_wp2
    go_ret
    exact ⟨_, rfl, rfl⟩
theorem bitsLen (n : Int) (hn : n = 1 ∨ n = 2) (w : World) : Calls Tryz.prog 188 #[.int .u64 n] w fun e w' => ∃ m : Int, e = .returned (.int .i64 m) ∧ w = w' := by
  go_enter Tryz.func188, Tryz.ntmps188
  go_wp2_with (go_at_call 152; refine (bitsLen64 n hn _).mono ?_; rintro e w' ⟨m, rfl, rfl⟩)
  go_ret
  exact ⟨_, rfl, rfl⟩
theorem insertOne (g : Nat) (w : World) : Calls Tryz.prog 198 #[.slice (some ⟨g, 0, none⟩) 1 1, .int .i64 0, .int .i64 1] w fun e w' => e = .returned (.tuple #[]) ∧ w = w' := by
  go_enter Tryz.func198, Tryz.ntmps198
  go_wp2_with fail
  go_loopw [6] (fun i wr => i = .int .i64 1 ∧ w = wr) (fun _ _ => 0)
  case atStart => exact ⟨rfl, rfl⟩
  case round =>
    obtain ⟨rfl, rfl⟩ := hrel
    go_wp2
    go_end0
    exact ⟨rfl, rfl⟩
def two (a b : Int) : Obj := .cells #[.int .i64 a, .int .i64 b] 3
set_option maxHeartbeats 1000000 in
theorem insertTwo (g : Nat) (a b : Int) (w : World) (h : w.heap[g]? = some (two a b)) : Calls Tryz.prog 198 #[.slice (some ⟨g, 0, none⟩) 2 2, .int .i64 0, .int .i64 2] w fun e w' => e = .returned (.tuple #[]) ∧ w'.heap[g]? = some (two (min a b) (max a b)) ∧ w.grownBy w' (some g) := by
  have hix0 : ∀ W, Sem.run Tryz.prog (Instr.indexAt 57 (.slice (some ⟨g, 0, none⟩) 2 2) (.int .i64 0)) W = .ok (.pointer (some ⟨g, 0, none⟩)) W := fun W => run_idx aInt (b := g) (o := 0) (len := 2) (cap := 2) 0 0 rfl (by omega) W
  have hix1 : ∀ W, Sem.run Tryz.prog (Instr.indexAt 57 (.slice (some ⟨g, 0, none⟩) 2 2) (.int .i64 1)) W = .ok (.pointer (some ⟨g, 1, none⟩)) W := fun W => run_idx aInt (b := g) (o := 0) (len := 2) (cap := 2) 1 1 rfl (by omega) W
  go_enter Tryz.func198, Tryz.ntmps198
  go_wp2_with fail
  go_loopw [6] (fun i wr => (i = .int .i64 1 ∧ w = wr) ∨ (i = .int .i64 2 ∧ wr.heap[g]? = some (two (min a b) (max a b)) ∧ w.grownBy wr (some g))) (fun i _ => 2 - (intOf i).toNat)
  case atStart => exact .inl ⟨rfl, rfl⟩
  case round =>
    rcases hrel with ⟨rfl, rfl⟩ | ⟨rfl, hh, hg⟩
    · go_wp2_with fail
      go_loopw [7] (fun j wr => (j = .int .i64 1 ∧ wr.heap[g]? = some (two a b) ∧ w.grownBy wr (some g)) ∨ (j = .int .i64 0 ∧ b < a ∧ wr.heap[g]? = some (two b a) ∧ w.grownBy wr (some g))) (fun j _ => (intOf j).toNat)
      case atStart => exact .inl ⟨rfl, h, World.grownBy.refl _ _⟩
      case round =>
        rcases hrel with ⟨rfl, hh, hg⟩ | ⟨rfl, hlt, hh, hg⟩
        · have c0 : wr.cell? ⟨g, 0, none⟩ = some (.int .i64 a) := by rw [World.cell?, hh]; rfl
          have c1 : wr.cell? ⟨g, 1, none⟩ = some (.int .i64 b) := by rw [World.cell?, hh]; rfl
          have f0 : wr.frozen? ⟨g, 0, none⟩ = false := frozen_of_row wr g 0 _ _ hh
          have f1 : wr.frozen? ⟨g, 1, none⟩ = false := frozen_of_row wr g 1 _ _ hh
          have HH := keepBack hh
          have hw0 : IntKind.i64.wrap 0 = 0 := by decide
          clear hh
          by_cases hlt : b < a
          · have HL := keepBack hlt
            have hle : ¬ a ≤ b := by omega
            go_wp2_with fail
            go_quiet ((go_at_call 204; refine quietEq (cmpLess_of _ _ _ (decide_eq_true HL.out))))
            have d0 : (wr.drewN nq).cell? ⟨g, 0, none⟩ = some (.int .i64 a) := (World.cell?_drewN wr nq _).trans c0
            have d1 : (wr.drewN nq).cell? ⟨g, 1, none⟩ = some (.int .i64 b) := (World.cell?_drewN wr nq _).trans c1
            have e0 : (wr.drewN nq).frozen? ⟨g, 0, none⟩ = false := f0
            have e1 : (wr.drewN nq).frozen? ⟨g, 1, none⟩ = false := f1
            have hh2 : (wr.drewN nq).heap[g]? = some (two a b) := HH.out
            have HG := keepBack (hg.trans ⟨rfl, rfl, rfl, Nat.le_refl _, fun _ _ _ => rfl⟩ : w.grownBy (wr.drewN nq) (some g))
            clear hle c0 c1 f0 f1
            have hmin : min a b = b := by omega
            have hmax : max a b = a := by omega
            have HM := keepBack hmin
            have HX := keepBack hmax
            have HH2 := keepBack hh2
            clear hmin hmax hh2
            generalize wr.drewN nq = wq at *
            go_wp2_with fail
            go_region
            go_wp2_with fail
            go_roundw
            case rel =>
              refine .inr ⟨rfl, HL.out, ?_, ?_⟩
              · have := heap_setCell_same (wq.setCell ⟨g, 1, none⟩ (.int .i64 a)) g 0 _ _ (.int .i64 b) (heap_setCell_same wq g 1 _ _ (.int .i64 a) HH2.out)
                exact this
              · exact HG.out.trans ⟨rfl, rfl, rfl, by simp [World.setCell], fun k _ hk => (heap_setCell_other _ _ _ _ (fun e => hk (by rw [e]))).trans (heap_setCell_other _ _ _ _ (fun e => hk (by rw [e])))⟩
            case measure => simp [intOf]
          · have HL := keepBack hlt
            have hle : a ≤ b := by omega
            have hmin : min a b = a := by omega
            have hmax : max a b = b := by omega
            have HM := keepBack hmin
            have HX := keepBack hmax
            clear hmin hmax
            go_wp2_with fail
            go_quiet ((go_at_call 204; refine quietEq (cmpLess_of _ _ _ (decide_eq_false (by have := HL.out; omega)))))
            have HG := keepBack (hg.trans ⟨rfl, rfl, rfl, Nat.le_refl _, fun _ _ _ => rfl⟩ : w.grownBy (wr.drewN nq) (some g))
            have hh2 : (wr.drewN nq).heap[g]? = some (two a b) := HH.out
            go_wp2_with fail
            go_roundw
            case rel => exact .inr ⟨rfl, by rw [HM.out, HX.out]; exact hh2, HG.out⟩
            case measure => simp [intOf]
        · have hmin : min a b = b := by omega
          have hmax : max a b = a := by omega
          have HM := keepBack hmin
          have HX := keepBack hmax
          clear hmin hmax
          go_wp2_with fail
          go_quiet (fail)
          have HG := keepBack (hg.trans ⟨rfl, rfl, rfl, Nat.le_refl _, fun _ _ _ => rfl⟩ : w.grownBy (wr.drewN nq) (some g))
          go_wp2_with fail
          go_roundw
          case rel => exact .inr ⟨rfl, by rw [HM.out, HX.out]; exact hh, HG.out⟩
          case measure => simp [intOf]
    · go_wp2
      go_end0
      exact ⟨rfl, hh, hg⟩
end Go.Pch
end

section
namespace Go.Pch
open Go.RowKit Go.Proofs
set_option maxRecDepth 100000
set_option maxHeartbeats 1000000 in
theorem pdqOne (g : Nat) (m : Int) (w : World) : Calls Tryz.prog 187 #[.slice (some ⟨g, 0, none⟩) 1 1, .int .i64 0, .int .i64 1, .int .i64 m] w fun e w' => e = .returned (.tuple #[]) ∧ w = w' := by
  go_enter Tryz.func187, Tryz.ntmps187
  go_wp2_with fail
  go_loopw [1, 2] (fun a b wr => a = .int .i64 0 ∧ b = .int .i64 1 ∧ w = wr) (fun _ _ _ => 0)
  case atStart => exact ⟨rfl, rfl, rfl⟩
  case round =>
    obtain ⟨rfl, rfl, rfl⟩ := hrel
    go_wp2_with (go_at_call 198; refine (insertOne _ _).mono ?_; rintro e w' ⟨rfl, rfl⟩)
    exact bodyPost_ret (results_none rfl _ _ _) rfl ⟨rfl, rfl⟩
set_option maxHeartbeats 1000000 in
theorem pdqTwo (g : Nat) (a b m : Int) (w : World) (h : w.heap[g]? = some (two a b)) : Calls Tryz.prog 187 #[.slice (some ⟨g, 0, none⟩) 2 2, .int .i64 0, .int .i64 2, .int .i64 m] w fun e w' => e = .returned (.tuple #[]) ∧ w'.heap[g]? = some (two (min a b) (max a b)) ∧ w.grownBy w' (some g) := by
  go_enter Tryz.func187, Tryz.ntmps187
  go_wp2_with fail
  go_loopw [1, 2] (fun a b wr => a = .int .i64 0 ∧ b = .int .i64 2 ∧ w = wr) (fun _ _ _ => 0)
  case atStart => exact ⟨rfl, rfl, rfl⟩
  case round =>
    obtain ⟨rfl, rfl, rfl⟩ := hrel
    have H := keepBack h
    clear h
    go_wp2_with (go_at_call 198; refine (insertTwo g a b _ H.out).mono ?_; rintro e w' ⟨rfl, h1, h2⟩)
    exact bodyPost_ret (results_none rfl _ _ _) rfl ⟨rfl, h1, h2⟩
theorem sortOne (g : Nat) (w : World) : Calls Tryz.prog 167 #[.slice (some ⟨g, 0, none⟩) 1 1] w fun e w' => e = .returned (.tuple #[]) ∧ w = w' := by
  go_enter Tryz.func167, Tryz.ntmps167
  go_wp2_with (first
    | (go_at_call 188; refine (bitsLen 1 (.inl rfl) _).mono ?_; rintro e w' ⟨m, rfl, rfl⟩)
    | (go_at_call 187; refine (pdqOne _ _ _).mono ?_; rintro e w' ⟨rfl, rfl⟩)
    | fail)
  go_end0
  exact ⟨rfl, rfl⟩
theorem sortTwo (g : Nat) (a b : Int) (w : World) (h : w.heap[g]? = some (two a b)) : Calls Tryz.prog 167 #[.slice (some ⟨g, 0, none⟩) 2 2] w fun e w' => e = .returned (.tuple #[]) ∧ w'.heap[g]? = some (two (min a b) (max a b)) ∧ w.grownBy w' (some g) := by
  have H := keepBack h
  clear h
  go_enter Tryz.func167, Tryz.ntmps167
  go_wp2_with (first
    | (go_at_call 188; refine (bitsLen 2 (.inr rfl) _).mono ?_; rintro e w' ⟨m, rfl, rfl⟩)
    | (go_at_call 187; refine (pdqTwo g a b _ _ H.out).mono ?_; rintro e w' ⟨rfl, h1, h2⟩)
    | fail)
  go_end0
  exact ⟨rfl, h1, h2⟩
end Go.Pch
end
