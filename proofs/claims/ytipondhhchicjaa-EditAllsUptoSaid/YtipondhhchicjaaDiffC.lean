/- The walks of the document's ChangesFine and SameChanges. -/
import Derived.Test.YtipondhhchicjaaChg
import Derived.Test.YtipondhhchicjaaC2
namespace Go.Pch
open Go.RowKit Go.Proofs
set_option maxRecDepth 100000

set_option maxHeartbeats 1000000 in
theorem refSameChanges (v u : Value) (l m : List Change) (S S' : Blk) (w : World) (h : Sl tChange w S v l) (g : Sl tChange w S' u m) :
    Calls Try.prog 26 #[v, u] w (Quiet w (.bool (decide (l = m)))) := by
  obtain ⟨ao, cap, rfl, hcap, hmax, hnil⟩ := h.shape
  obtain ⟨ao', cap', rfl, hcap', hmax', hnil'⟩ := g.shape
  unfold maxLen at hmax hmax'
  by_cases he : l.length = m.length
  · have hne : (((l.length : Nat) : Int) != (m.length : Int)) = false := by simp [he]
    have hl1 : l.length ≤ m.length := by omega
    have hl2 : m.length ≤ l.length := by omega
    clear he
    go_enter Try.func26, Try.ntmps26
    go_wp2
    go_loopw [5] (fun i wr => ∃ (k : Nat), k ≤ l.length ∧ i = .int .i64 k ∧ Drawn w wr ∧ Hid (l.take k = m.take k)) (fun i _ => l.length - (intOf i).toNat)
    case atStart => exact ⟨0, Nat.zero_le _, rfl, .refl _, rfl⟩
    case round =>
      obtain ⟨k, hk, rfl, hd, hm⟩ := hrel
      by_cases hlt : k < l.length
      · obtain ⟨b, o, hix, _, hbs, ok1, ok2, ok3, hc0, hc1, hc2⟩ := (h.call hd.below).idxChg aChg k k rfl hlt
        obtain ⟨b', o', hix', _, hbs', ok1', ok2', ok3', hc0', hc1', hc2'⟩ := (g.call hd.below).idxChg aChg k k rfl (by omega)
        have hg := chgGuard
        have he := chgEqual l[k] m[k]
        by_cases hx : l[k] = m[k]
        · have HX := keepBack hx
          rw [show decide (l[k] = m[k]) = true by simpa using hx] at he
          clear hx
          go_wp2
          go_quiet (fail)
          go_wp2
          go_roundw
          case rel => exact ⟨k + 1, by omega, by go_num, hd.next _, take_more hlt (by omega) hm.out HX.out⟩
          case measure => simp [intOf]; omega
        · have HX := keepBack hx
          rw [show decide (l[k] = m[k]) = false by simpa using hx] at he
          clear hx
          go_wp2
          go_quiet (fail)
          go_wp2
          go_ret
          exact ⟨ret_no fun e => HX.out (by subst e; rfl), hd.next _⟩
      · go_wp2
        go_ret
        exact ⟨ret_yes (take_all hlt hl1 hl2 hm.out), hd⟩
  · have hne : (((l.length : Nat) : Int) != (m.length : Int)) = true := by simp; omega
    go_enter Try.func26, Try.ntmps26
    go_wp2
    go_ret
    exact ⟨ret_no fun e => he (by rw [e]), .refl _⟩
theorem refSameChanges_of {c : Bool} (v u : Value) (l m : List Change) (S S' : Blk) (w : World) (h : Sl tChange w S v l) (g : Sl tChange w S' u m) (hc : decide (l = m) = c) :
    Calls Try.prog 26 #[v, u] w (Quiet w (.bool c)) := hc ▸ refSameChanges v u l m S S' w h g

/-- The change ahead. -/
def prevC (l : List Change) (k : Nat) : Int := if k = 0 then -1 else ((l[k-1]?).getD (0, 0, 0)).1

set_option maxHeartbeats 8000000 in
theorem refChangesFine (v : Value) (l : List Change) (S : Blk) (w : World) (h : Sl tChange w S v l) :
    Calls Try.prog 59 #[v] w (Quiet w (.bool (fineC (-1) l))) := by
  have hv := h
  obtain ⟨ao, cap, rfl, hcap, hmax, hnil⟩ := h.shape
  unfold maxLen at hmax
  clear hnil
  go_enter Try.func59, Try.ntmps59
  go_wp2
  go_loopw [3] (fun i wr => ∃ (k : Nat), k ≤ l.length ∧ i = .int .i64 k ∧ Drawn w wr ∧ Hid (fineC (-1) l = fineC (prevC l k) (l.drop k)) ∧ Hid (-1 ≤ prevC l k)) (fun i _ => l.length - (intOf i).toNat)
  case atStart => exact ⟨0, Nat.zero_le _, rfl, .refl _, keepBack rfl, keepBack (by simp [prevC])⟩
  case round =>
    obtain ⟨k, hk, rfl, hd, hr, hp⟩ := hrel
    by_cases hlt : k < l.length
    · obtain ⟨b, o, hix, _, hbs, ok1, ok2, ok3, hc0, hc1, hc2⟩ := (hv.call hd.below).idxChg aChg k k rfl hlt
      go_wp2_with fail
      cases hkb : keyB l[k].1 with
      | false =>
        have hno := keepBack (key_not hkb)
        go_quiet ((go_at_call 72; exact quietEq (refIsKey_of _ _ hkb)))
        go_wp2
        go_ret
        exact ⟨by rw [hr.out, fineC_stop hlt (by have := hno.out; have := hp.out; omega)]; rfl, hd.next _⟩
      | true =>
        have hyes := keepBack (key_yes hkb)
        cases hv1 : (decide (-1 ≤ l[k].2.1) && decide (l[k].2.1 ≤ 996)) with
        | false =>
          go_quiet ((first | (go_at_call 72; exact quietEq (refIsKey_of _ _ hkb)) | (go_at_call 73; exact quietEq (refWithin_of _ _ _ _ hv1))))
          go_wp2
          go_ret
          exact ⟨by rw [hr.out, fineC_stop hlt (.inr (.inr (.inl hv1)))]; rfl, hd.next _⟩
        | true =>
          cases hv2 : (decide (-1 ≤ l[k].2.2) && decide (l[k].2.2 ≤ 996)) with
          | false =>
            go_quiet ((first | (go_at_call 72; exact quietEq (refIsKey_of _ _ hkb)) | (go_at_call 73; exact quietEq (refWithin_of _ _ _ _ hv1)) | (go_at_call 73; exact quietEq (refWithin_of _ _ _ _ hv2))))
            go_wp2
            go_ret
            exact ⟨by rw [hr.out, fineC_stop hlt (.inr (.inr (.inr (.inl hv2))))]; rfl, hd.next _⟩
          | true =>
            by_cases hq : l[k].2.1 = l[k].2.2
            · have HQ := keepBack hq
              have b3 : (l[k].2.1 == l[k].2.2) = true := by simpa using hq
              clear hq
              go_quiet ((first | (go_at_call 72; exact quietEq (refIsKey_of _ _ hkb)) | (go_at_call 73; exact quietEq (refWithin_of _ _ _ _ hv1)) | (go_at_call 73; exact quietEq (refWithin_of _ _ _ _ hv2))))
              go_wp2
              go_ret
              exact ⟨by rw [hr.out, fineC_stop hlt (.inr (.inr (.inr (.inr HQ.out))))]; rfl, hd.next _⟩
            · have HQ := keepBack hq
              have b3 : (l[k].2.1 == l[k].2.2) = false := by simpa using hq
              clear hq
              by_cases hk0 : k = 0
              · have hk1 : decide ((0 : Int) < k) = false := by simp; omega
                have hk1' : decide (0 < k) = false := by simp; omega
                have hgo : fineC (prevC l k) (l.drop k) = fineC l[k].1 (l.drop (k + 1)) := fineC_go hlt ⟨⟨by have := hyes.out; simp [prevC, hk0]; simp [hk0] at this; omega, hyes.out.2⟩, hv1, hv2, HQ.out⟩
                have Hgo := keepBack hgo
                have hk2 : k ≤ 0 := by omega
                clear hk0 hgo
                go_quiet ((first | (go_at_call 72; exact quietEq (refIsKey_of _ _ hkb)) | (go_at_call 73; exact quietEq (refWithin_of _ _ _ _ hv1)) | (go_at_call 73; exact quietEq (refWithin_of _ _ _ _ hv2))))
                go_wp2
                go_roundw
                case rel => exact ⟨k + 1, by omega, by go_num, hd.next _, keepBack (by rw [hr.out, Hgo.out, prevC, if_neg (by omega), Nat.add_sub_cancel, List.getElem?_eq_getElem hlt]; rfl), keepBack (by have := hyes.out; rw [prevC, if_neg (by omega), Nat.add_sub_cancel, List.getElem?_eq_getElem hlt]; show -1 ≤ l[k].1; omega)⟩
                case measure => simp [intOf]; omega
              · have hk1 : decide ((0 : Int) < k) = true := by simp; omega
                have hk1' : decide (0 < k) = true := by simp; omega
                obtain ⟨b', o', hix', _, hbs', ok1', ok2', ok3', hc0', hc1', hc2'⟩ := (hv.call hd.below).idxChg aChg (k - 1) (k - 1) (by omega) (by omega)
                have Hpv : Hid (prevC l k = l[k-1].1) := keepBack (by rw [prevC, if_neg hk0, List.getElem?_eq_getElem (by omega)]; rfl)
                by_cases hle : l[k].1 ≤ l[k - 1].1
                · have HL := keepBack hle
                  have b4 : decide (l[k].1 ≤ l[k - 1].1) = true := by simpa using hle
                  clear hle
                  go_quiet ((first | (go_at_call 72; exact quietEq (refIsKey_of _ _ hkb)) | (go_at_call 73; exact quietEq (refWithin_of _ _ _ _ hv1)) | (go_at_call 73; exact quietEq (refWithin_of _ _ _ _ hv2))))
                  go_wp2
                  go_ret
                  exact ⟨by rw [hr.out, fineC_stop hlt (.inl (by rw [Hpv.out]; exact HL.out))]; rfl, hd.next _⟩
                · have HL := keepBack hle
                  have b4 : decide (l[k].1 ≤ l[k - 1].1) = false := by simpa using hle
                  clear hle
                  go_quiet ((first | (go_at_call 72; exact quietEq (refIsKey_of _ _ hkb)) | (go_at_call 73; exact quietEq (refWithin_of _ _ _ _ hv1)) | (go_at_call 73; exact quietEq (refWithin_of _ _ _ _ hv2))))
                  go_wp2
                  go_roundw
                  case rel => exact ⟨k + 1, by omega, by go_num, hd.next _, keepBack (by rw [hr.out, fineC_go hlt ⟨⟨by rw [Hpv.out]; have := HL.out; omega, hyes.out.2⟩, hv1, hv2, HQ.out⟩, prevC, if_neg (by omega), Nat.add_sub_cancel, List.getElem?_eq_getElem hlt]; rfl), keepBack (by have := hyes.out; rw [prevC, if_neg (by omega), Nat.add_sub_cancel, List.getElem?_eq_getElem hlt]; show -1 ≤ l[k].1; omega)⟩
                  case measure => simp [intOf]; omega
    · go_wp2
      go_ret
      exact ⟨by rw [hr.out, fineC_end hlt]; rfl, hd⟩

end Go.Pch
