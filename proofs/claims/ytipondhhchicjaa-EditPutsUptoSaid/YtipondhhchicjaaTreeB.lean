/- The walks of what the document says of trees. -/
import Derived.Test.YtipondhhchicjaaTreeA
namespace Go.Pch
open Go.RowKit Go.Proofs

theorem aTree : At Try.prog tRow.slice.slice 35 58 := At.mk' Try.underlying35 (z := .slice none 0 0) (size := 1) (bytes := 24) (by kernel_rfl) rfl rfl (by decide)

theorem refSameLevel_of {c : Bool} (v u : Value) (l m : List (List Row)) (S S' : Blk) (w : World) (h : Sl tRow.slice w S v l) (g : Sl tRow.slice w S' u m) (hc : decide (l = m) = c) :
    Calls Try.prog 60 #[v, u] w (Quiet w (.bool c)) := hc ▸ refSameLevel v u l m S S' w h g

set_option maxHeartbeats 400000 in
theorem refSameTrees (v u : Value) (l m : List (List (List Row))) (S S' : Blk) (w : World) (h : Sl tRow.slice.slice w S v l) (g : Sl tRow.slice.slice w S' u m) :
    Calls Try.prog 30 #[v, u] w (Quiet w (.bool (decide (l = m)))) := by
  obtain ⟨ao, cap, rfl, hcap, hmax, hnil⟩ := h.shape
  obtain ⟨ao', cap', rfl, hcap', hmax', hnil'⟩ := g.shape
  unfold maxLen at hmax hmax'
  by_cases he : l.length = m.length
  · have hne : (((l.length : Nat) : Int) != (m.length : Int)) = false := by simp [he]
    have hl1 : l.length ≤ m.length := by omega
    have hl2 : m.length ≤ l.length := by omega
    clear he
    go_enter Try.func30, Try.ntmps30
    go_wp2
    go_loopw [5] (fun i wr => ∃ (k : Nat), k ≤ l.length ∧ i = .int .i64 k ∧ Drawn w wr ∧ Hid (l.take k = m.take k)) (fun i _ => l.length - (intOf i).toNat)
    case atStart => exact ⟨0, Nat.zero_le _, rfl, .refl _, rfl⟩
    case round =>
      obtain ⟨k, hk, rfl, hd, hm⟩ := hrel
      by_cases hlt : k < l.length
      · obtain ⟨b, o, a1, c1, hix, _, hbs, hs1, _, _, hc0⟩ := (h.call hd.below).idxSl aTree k k rfl hlt
        obtain ⟨b', o', a2, c2, hix', _, hbs', hs2, _, _, hc0'⟩ := (g.call hd.below).idxSl aTree k k rfl (by omega)
        cases hq : decide (l[k] = m[k]) with
        | true =>
          go_wp2_with fail
          go_quiet ((go_at_call 60; exact quietOf (refSameLevel_of _ _ _ _ _ _ _ (hs1.keep fun _ _ _ => rfl) (hs2.keep fun _ _ _ => rfl) hq)))
          go_wp2
          go_roundw
          case rel => exact ⟨k + 1, by omega, by go_num, hd.next _, take_more hlt (by omega) hm.out (by simpa using hq)⟩
          case measure => simp [intOf]; omega
        | false =>
          go_wp2_with fail
          go_quiet ((go_at_call 60; exact quietOf (refSameLevel_of _ _ _ _ _ _ _ (hs1.keep fun _ _ _ => rfl) (hs2.keep fun _ _ _ => rfl) hq)))
          go_wp2
          go_ret
          refine ⟨ret_no fun e => ?_, hd.next _⟩
          subst e
          simp at hq
      · go_wp2
        go_ret
        exact ⟨ret_yes (take_all hlt hl1 hl2 hm.out), hd⟩
  · have hne : (((l.length : Nat) : Int) != (m.length : Int)) = true := by simp; omega
    go_enter Try.func30, Try.ntmps30
    go_wp2
    go_ret
    exact ⟨ret_no fun e => he (by rw [e]), .refl _⟩

theorem refSameTrees_of {c : Bool} (v u : Value) (l m : List (List (List Row))) (S S' : Blk) (w : World) (h : Sl tRow.slice.slice w S v l) (g : Sl tRow.slice.slice w S' u m) (hc : decide (l = m) = c) :
    Calls Try.prog 30 #[v, u] w (Quiet w (.bool c)) := hc ▸ refSameTrees v u l m S S' w h g

end Go.Pch
