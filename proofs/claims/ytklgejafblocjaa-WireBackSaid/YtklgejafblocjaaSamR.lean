/- The walk of SameRows (as in the text of chapter 2's walks). -/
import Derived.Test.YtklgejafblocjaaC1
import Derived.Test.YtklgejafblocjaaRowT
namespace Go.Pch
open Go.RowKit Go.Proofs

set_option maxRecDepth 100000 in
set_option maxHeartbeats 400000 in
theorem rowsSame (v u : Value) (l m : List Row) (S S' : Blk) (w : World) (h : Sl tRow w S v l) (g : Sl tRow w S' u m) :
    Calls Try.prog 58 #[v, u] w (Quiet w (.bool (decide (l = m)))) := by
  obtain ⟨ao, cap, rfl, hcap, hmax, hnil⟩ := h.shape
  obtain ⟨ao', cap', rfl, hcap', hmax', hnil'⟩ := g.shape
  unfold maxLen at hmax hmax'
  by_cases he : l.length = m.length
  · have hne : (((l.length : Nat) : Int) != (m.length : Int)) = false := by simp [he]
    have hl1 : l.length ≤ m.length := by omega
    have hl2 : m.length ≤ l.length := by omega
    clear he
    go_enter Try.func58, Try.ntmps58
    go_wp2
    go_loopw [5] (fun i wr => ∃ (k : Nat), k ≤ l.length ∧ i = .int .i64 k ∧ Drawn w wr ∧ Hid (l.take k = m.take k)) (fun i _ => l.length - (intOf i).toNat)
    case atStart => exact ⟨0, Nat.zero_le _, rfl, .refl _, rfl⟩
    case round =>
      obtain ⟨k, hk, rfl, hd, hm⟩ := hrel
      by_cases hlt : k < l.length
      · obtain ⟨b, o, hix, _, hbs, ok1, ok2, hc0, hc1⟩ := (h.call hd.below).idxRow aRow k k rfl hlt
        obtain ⟨b', o', hix', _, hbs', ok1', ok2', hc0', hc1'⟩ := (g.call hd.below).idxRow aRow k k rfl (by omega)
        have hg := rowGuard
        have he := rowEqual l[k].1 l[k].2 m[k].1 m[k].2
        go_wp2
        go_quiet (fail)
        go_wp2
        · have hx : (!decide (l[k].1 = m[k].1)) = true ∨ (!decide (l[k].2 = m[k].2)) = true := by assumption
          go_ret
          refine ⟨ret_no fun e => ?_, hd.next _⟩
          subst e
          simp at hx
        · have hx : (!decide (l[k].1 = m[k].1)) = false ∧ (!decide (l[k].2 = m[k].2)) = false := by assumption
          go_roundw
          case rel => exact ⟨k + 1, by omega, by go_num, hd.next _, take_more hlt (by omega) hm.out (by simp at hx; exact Prod.ext hx.1 hx.2)⟩
          case measure => simp [intOf]; omega
      · go_wp2
        go_ret
        exact ⟨ret_yes (take_all hlt hl1 hl2 hm.out), hd⟩
  · have hne : (((l.length : Nat) : Int) != (m.length : Int)) = true := by simp; omega
    go_enter Try.func58, Try.ntmps58
    go_wp2
    go_ret
    exact ⟨ret_no fun e => he (by rw [e]), .refl _⟩

theorem rowsSame_of {c : Bool} (v u : Value) (l m : List Row) (S S' : Blk) (w : World) (h : Sl tRow w S v l) (g : Sl tRow w S' u m) (hc : decide (l = m) = c) :
    Calls Try.prog 58 #[v, u] w (Quiet w (.bool c)) := hc ▸ rowsSame v u l m S S' w h g

end Go.Pch
