/- The walks of package rows. -/
import Derived.Test.YtklgejafblocjaaBase
import Derived.Test.YtklgejafblocjaaChecked
namespace Go.Pch
open Go.RowKit Go.Proofs

theorem aRow : At Try.prog tRow 63 74 := At.mk' Try.underlying63 (z := .agg #[.int .i64 0, .int .i64 0]) (size := 2) (bytes := 16) (by kernel_rfl) rfl rfl (by decide)

theorem ret_bool {a b : Bool} (h : a = b) : Ending.returned (.bool a) = .returned (.bool b) := by rw [h]
theorem ret_int {a b : Int} (h : a = b) : Ending.returned (.int .i64 a) = .returned (.int .i64 b) := by rw [h]

theorem ret_no {p : Prop} [Decidable p] (h : ¬ p) : Ending.returned (.bool false) = .returned (.bool (decide p)) := by rw [decide_eq_false h]
theorem ret_yes {p : Prop} [Decidable p] (h : p) : Ending.returned (.bool true) = .returned (.bool (decide p)) := by rw [decide_eq_true h]

theorem refWithin (n a b : Int) (w : World) : Calls Try.prog 36 #[.int .i64 n, .int .i64 a, .int .i64 b] w fun e w' => e = .returned (.bool (decide (a ≤ n) && decide (n ≤ b))) ∧ w = w' := by
  go_enter Try.func36, Try.ntmps36
  go_wp2
  all_goals
    go_ret
    refine ⟨ret_bool ?_, rfl⟩
    rw [Bool.eq_iff_iff]; simp <;> omega

theorem refIsKey (k : Int) (w : World) : Calls Try.prog 71 #[.int .i64 k] w fun e w' => e = .returned (.bool (keyB k)) ∧ w = w' := by
  go_enter Try.func71, Try.ntmps71
  go_wp2_with (go_at_call 36; refine (refWithin _ _ _ _).mono ?_; rintro e w' ⟨rfl, rfl⟩)
  go_ret
  exact ⟨rfl, rfl⟩

theorem refIsKey_of (k : Int) (w : World) {c : Bool} (h : keyB k = c) : Calls Try.prog 71 #[.int .i64 k] w fun e w' => e = .returned (.bool c) ∧ w = w' := h ▸ refIsKey k w
theorem refWithin_of (n a b : Int) (w : World) {c : Bool} (h : (decide (a ≤ n) && decide (n ≤ b)) = c) : Calls Try.prog 36 #[.int .i64 n, .int .i64 a, .int .i64 b] w fun e w' => e = .returned (.bool c) ∧ w = w' := h ▸ refWithin n a b w

set_option maxHeartbeats 400000 in
theorem rowsCheck (v : Value) (l : List Row) (S : Blk) (w : World) (h : Sl tRow w S v l) :
    Calls Try.prog 38 #[v] w (Ret w fun r _ => r = .int .i64 (rowsErr l)) := by
  obtain ⟨ao, cap, rfl, hcap, hmax, hnil⟩ := h.shape
  unfold maxLen at hmax
  go_enter Try.func38, Try.ntmps38
  go_wp2
  · go_ret
    exact ⟨_, rfl, by rw [rowsErr_many (by omega)]; rfl, Below.refl _ _⟩
  · go_loopw [3, 11] (fun last i wr => ∃ (k : Nat) (m : Int), k ≤ l.length ∧ i = .int .i64 k ∧ last = .int .i64 m ∧ Below w.heap.size w wr ∧ Hid (riseB (-1) l = riseB m (l.drop k))) (fun _ i _ => l.length - (intOf i).toNat)
    case atStart => exact ⟨0, -1, Nat.zero_le _, rfl, rfl, Below.refl _ _, rfl⟩
    case round =>
      obtain ⟨k, m, hk, rfl, rfl, hb, hr⟩ := hrel
      by_cases hlt : k < l.length
      · obtain ⟨b, o, hix, _, hbs, ok1, ok2, hc0, hc1⟩ := (h.call hb).idxRow aRow k k rfl hlt
        go_wp2
        any_goals
          go_ret
          exact ⟨_, rfl, by rw [rowsErr_form (by omega) hr.out (rise_stop hlt (by omega))]; rfl, hb.alloc hb.size _⟩
        go_roundw
        case rel => exact ⟨k + 1, _, by omega, by go_num, rfl, hb.alloc hb.size _, hr.out.trans (rise_go hlt (by omega))⟩
        case measure => simp [intOf]; omega
      · go_wp2
        go_ret
        exact ⟨_, rfl, by rw [rowsErr_ok (by omega) hr.out (rise_end hlt)]; rfl, hb⟩
theorem key_not {k : Int} (h : keyB k = false) : k < 0 ∨ 99 < k := by
  simp [keyB] at h; omega
theorem key_yes {k : Int} (h : keyB k = true) : 0 ≤ k ∧ k ≤ 99 := by
  simp [keyB] at h; omega

set_option maxHeartbeats 400000 in
theorem refRowsError (v : Value) (l : List Row) (S : Blk) (w : World) (h : Sl tRow w S v l) :
    Calls Try.prog 39 #[v] w (Quiet w (.int .i64 (rowsErr l))) := by
  have hv := h
  obtain ⟨ao, cap, rfl, hcap, hmax, hnil⟩ := h.shape
  unfold maxLen at hmax
  go_enter Try.func39, Try.ntmps39
  go_wp2
  · go_ret
    exact ⟨by rw [rowsErr_many (by omega)]; rfl, .refl _⟩
  · go_loopw [3] (fun i wr => ∃ (k : Nat) (m : Int), k ≤ l.length ∧ -1 ≤ m ∧ i = .int .i64 k ∧ Drawn w wr ∧ Hid (riseB (-1) l = riseB m (l.drop k)) ∧ Hid (k = 0 ∧ m = -1 ∨ ∃ h : k - 1 < l.length, 0 < k ∧ m = l[k-1].1)) (fun i _ => l.length - (intOf i).toNat)
    case atStart => exact ⟨0, -1, Nat.zero_le _, by omega, rfl, .refl _, rfl, .inl ⟨rfl, rfl⟩⟩
    case round =>
      obtain ⟨k, m, hk, hm0, rfl, hd, hr, hm⟩ := hrel
      by_cases hlt : k < l.length
      · obtain ⟨b, o, hix, _, hbs, ok1, ok2, hc0, hc1⟩ := (hv.call hd.below).idxRow aRow k k rfl hlt
        go_wp2_with fail
        cases hkb : keyB l[k].1 with
        | false =>
          have hno := key_not hkb
          go_quiet ((go_at_call 71; exact quietEq (refIsKey_of _ _ hkb)))
          go_wp2
          go_ret
          exact ⟨by rw [rowsErr_form (by omega) hr.out (rise_stop hlt (by omega))]; rfl, hd.next _⟩
        | true =>
          cases hvb : (decide (0 ≤ l[k].2) && decide (l[k].2 ≤ 996)) with
          | false =>
            go_quiet ((first | (go_at_call 71; exact quietEq (refIsKey_of _ _ hkb)) | (go_at_call 36; exact quietEq (refWithin_of _ _ _ _ hvb))))
            go_wp2
            go_ret
            simp only [Bool.and_eq_false_iff, decide_eq_false_iff_not] at hvb
            exact ⟨by rw [rowsErr_form (by omega) hr.out (rise_stop hlt (by omega))]; rfl, hd.next _⟩
          | true =>
            have hyes := key_yes hkb
            have hvb' := hvb
            simp only [Bool.and_eq_true, decide_eq_true_eq] at hvb'
            by_cases hk0 : k = 0
            · have hk1 : decide (0 < k) = false := by simp; omega
              have hk2 : k ≤ 0 := by omega
              have hgo : riseB m (l.drop k) = riseB l[k].1 (l.drop (k + 1)) := rise_go hlt (by rcases hm.out with h | ⟨_, h, _⟩ <;> omega)
              have Hgo := keepBack hgo
              clear hk0 hgo
              go_quiet ((first | (go_at_call 71; exact quietEq (refIsKey_of _ _ hkb)) | (go_at_call 36; exact quietEq (refWithin_of _ _ _ _ hvb))))
              go_wp2
              go_roundw
              case rel => exact ⟨k + 1, _, by omega, by omega, by go_num, hd.next _, hr.out.trans Hgo.out, .inr ⟨by simpa using hlt, by omega, rfl⟩⟩
              case measure => simp [intOf]; omega
            · have hk1 : decide (0 < k) = true := by simp; omega
              have hm1 : m = l[k - 1].1 := by rcases hm.out with h | ⟨_, _, h⟩ <;> omega
              have Hm1 := keepBack hm1
              clear hm1
              obtain ⟨b', o', hix', _, hbs', ok1', ok2', hc0', hc1'⟩ := (hv.call hd.below).idxRow aRow (k - 1) (k - 1) (by omega) (by omega)
              go_quiet ((first | (go_at_call 71; exact quietEq (refIsKey_of _ _ hkb)) | (go_at_call 36; exact quietEq (refWithin_of _ _ _ _ hvb))))
              go_wp2
              · have hx : l[k].1 ≤ l[k - 1].1 := by assumption
                go_ret
                exact ⟨by rw [rowsErr_form (by omega) hr.out (rise_stop hlt (by rw [Hm1.out]; omega))]; rfl, hd.next _⟩
              · have hx : l[k - 1].1 < l[k].1 := by assumption
                go_roundw
                case rel => exact ⟨k + 1, _, by omega, by omega, by go_num, hd.next _, hr.out.trans (rise_go hlt (by rw [Hm1.out]; omega)), .inr ⟨by simpa using hlt, by omega, rfl⟩⟩
                case measure => simp [intOf]; omega
      · go_wp2
        go_ret
        exact ⟨by rw [rowsErr_ok (by omega) hr.out (rise_end hlt)]; rfl, hd⟩

end Go.Pch
