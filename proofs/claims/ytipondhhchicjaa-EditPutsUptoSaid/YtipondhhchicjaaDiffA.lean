/- The walks of diff.Fine, and of the document's ChangesFine and SameChanges. -/
import Derived.Test.YtipondhhchicjaaChg
import Derived.Test.YtipondhhchicjaaC2
namespace Go.Pch
open Go.RowKit Go.Proofs
set_option maxRecDepth 100000

set_option maxHeartbeats 4000000 in
theorem diffFine (v : Value) (l : List Change) (S : Blk) (w : World) (h : Sl tChange w S v l) :
    Calls Try.prog 54 #[v] w (Ret w fun r _ => r = .bool (fineC (-1) l)) := by
  obtain ⟨ao, cap, rfl, hcap, hmax, hnil⟩ := h.shape
  unfold maxLen at hmax
  go_enter Try.func54, Try.ntmps54
  go_wp2_with fail
  go_loopw [3, 8] (fun last i wr => ∃ (k : Nat) (m : Int), k ≤ l.length ∧ i = .int .i64 k ∧ last = .int .i64 m ∧ Below w.heap.size w wr ∧ Hid (fineC (-1) l = fineC m (l.drop k))) (fun _ i _ => l.length - (intOf i).toNat)
  case atStart => exact ⟨0, -1, Nat.zero_le _, rfl, rfl, Below.refl _ _, rfl⟩
  case round =>
    obtain ⟨k, m, hk, rfl, rfl, hb, hr⟩ := hrel
    by_cases hlt : k < l.length
    · obtain ⟨b, o, hix, _, hbs, ok1, ok2, ok3, hc0, hc1, hc2⟩ := (h.call hb).idxChg aChg k k rfl hlt
      clear hnil
      by_cases q1 : l[k].1 ≤ m
      · have H : Hid (l[k].1 ≤ m ∨ 99 < l[k].1 ∨ valB l[k].2.1 = false ∨ valB l[k].2.2 = false ∨ l[k].2.1 = l[k].2.2) := keepBack (.inl q1)
        have b1 : decide (l[k].1 ≤ m) = true := by simpa using q1
        clear q1
        go_wp2
        go_ret
        exact ⟨_, rfl, by rw [hr.out, fineC_stop hlt H.out]; rfl, hb.alloc hb.size _⟩
      · have b1 : decide (l[k].1 ≤ m) = false := by simpa using q1
        have Q1 := keepBack q1
        clear q1
        by_cases q2 : 99 < l[k].1
        · have H : Hid (l[k].1 ≤ m ∨ 99 < l[k].1 ∨ valB l[k].2.1 = false ∨ valB l[k].2.2 = false ∨ l[k].2.1 = l[k].2.2) := keepBack (.inr (.inl q2))
          have b2 : decide (99 < l[k].1) = true := by simpa using q2
          clear q2
          go_wp2
          go_ret
          exact ⟨_, rfl, by rw [hr.out, fineC_stop hlt H.out]; rfl, hb.alloc hb.size _⟩
        · have b2 : decide (99 < l[k].1) = false := by simpa using q2
          have Q2 := keepBack q2
          clear q2
          cases hv1 : valB l[k].2.1 with
          | false =>
            have H : Hid (l[k].1 ≤ m ∨ 99 < l[k].1 ∨ valB l[k].2.1 = false ∨ valB l[k].2.2 = false ∨ l[k].2.1 = l[k].2.2) := keepBack (.inr (.inr (.inl hv1)))
            go_wp2_with (go_at_call 66; refine (rowsVal_of _ _ hv1).mono ?_; rintro e w' ⟨rfl, rfl⟩)
            go_ret
            exact ⟨_, rfl, by rw [hr.out, fineC_stop hlt H.out]; rfl, hb.alloc hb.size _⟩
          | true =>
            cases hv2 : valB l[k].2.2 with
            | false =>
              have H : Hid (l[k].1 ≤ m ∨ 99 < l[k].1 ∨ valB l[k].2.1 = false ∨ valB l[k].2.2 = false ∨ l[k].2.1 = l[k].2.2) := keepBack (.inr (.inr (.inr (.inl hv2))))
              go_wp2_with (first | (go_at_call 66; refine (rowsVal_of _ _ hv1).mono ?_; rintro e w' ⟨rfl, rfl⟩) | (go_at_call 66; refine (rowsVal_of _ _ hv2).mono ?_; rintro e w' ⟨rfl, rfl⟩))
              go_ret
              exact ⟨_, rfl, by rw [hr.out, fineC_stop hlt H.out]; rfl, hb.alloc hb.size _⟩
            | true =>
              by_cases q3 : l[k].2.1 = l[k].2.2
              · have H : Hid (l[k].1 ≤ m ∨ 99 < l[k].1 ∨ valB l[k].2.1 = false ∨ valB l[k].2.2 = false ∨ l[k].2.1 = l[k].2.2) := keepBack (.inr (.inr (.inr (.inr q3))))
                have b3 : (l[k].2.1 == l[k].2.2) = true := by simpa using q3
                clear q3
                go_wp2_with (first | (go_at_call 66; refine (rowsVal_of _ _ hv1).mono ?_; rintro e w' ⟨rfl, rfl⟩) | (go_at_call 66; refine (rowsVal_of _ _ hv2).mono ?_; rintro e w' ⟨rfl, rfl⟩))
                go_ret
                exact ⟨_, rfl, by rw [hr.out, fineC_stop hlt H.out]; rfl, hb.alloc hb.size _⟩
              · have b3 : (l[k].2.1 == l[k].2.2) = false := by simpa using q3
                have H := keepBack (fineC_go (m := m) hlt ⟨⟨by have := Q1.out; omega, by have := Q2.out; omega⟩, hv1, hv2, q3⟩)
                clear q3
                go_wp2_with (first | (go_at_call 66; refine (rowsVal_of _ _ hv1).mono ?_; rintro e w' ⟨rfl, rfl⟩) | (go_at_call 66; refine (rowsVal_of _ _ hv2).mono ?_; rintro e w' ⟨rfl, rfl⟩))
                go_roundw
                case rel => exact ⟨k + 1, _, by omega, by go_num, rfl, hb.alloc hb.size _, hr.out.trans H.out⟩
                case measure => simp [intOf]; omega
    · go_wp2
      go_ret
      exact ⟨_, rfl, by rw [hr.out, fineC_end hlt]; rfl, hb⟩

end Go.Pch
