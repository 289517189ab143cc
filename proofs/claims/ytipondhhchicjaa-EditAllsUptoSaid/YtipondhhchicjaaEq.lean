/- The walks of slices.Equal at rows, slices.EqualFunc at levels and trees, tree.same. -/
import Derived.Test.YtipondhhchicjaaTreeB
namespace Go.Pch
open Go.RowKit Go.Proofs

set_option maxRecDepth 100000 in
set_option maxHeartbeats 400000 in
theorem eqRows (v u : Value) (l m : List Row) (S S' : Blk) (w : World) (h : Sl tRow w S v l) (g : Sl tRow w S' u m) :
    Calls Try.prog 77 #[v, u] w (Quiet w (.bool (decide (l = m)))) := by
  obtain ⟨ao, cap, rfl, hcap, hmax, hnil⟩ := h.shape
  obtain ⟨ao', cap', rfl, hcap', hmax', hnil'⟩ := g.shape
  unfold maxLen at hmax hmax'
  by_cases he : l.length = m.length
  · have hne : (((l.length : Nat) : Int) != (m.length : Int)) = false := by simp [he]
    have hl1 : l.length ≤ m.length := by omega
    have hl2 : m.length ≤ l.length := by omega
    clear he
    go_enter Try.func77, Try.ntmps77
    go_wp2
    go_loopw [13] (fun i wr => ∃ (k : Nat), k ≤ l.length ∧ i = .int .i64 k ∧ Drawn w wr ∧ Hid (l.take k = m.take k)) (fun i _ => l.length - (intOf i).toNat)
    case atStart => exact ⟨0, Nat.zero_le _, rfl, .refl _, rfl⟩
    case round =>
      obtain ⟨k, hk, rfl, hd, hm⟩ := hrel
      by_cases hlt : k < l.length
      · obtain ⟨b, o, hix, _, hbs, ok1, ok2, hc0, hc1⟩ := (h.call hd.below).idxRow aRow k k rfl hlt
        obtain ⟨b', o', hix', _, hbs', ok1', ok2', hc0', hc1'⟩ := (g.call hd.below).idxRow aRow k k rfl (by omega)
        have hg := rowGuard
        have he := rowEqual l[k].1 l[k].2 m[k].1 m[k].2
        go_wp2
        go_quiet (fail)
        go_wp2
        · have hx : (!decide (l[k].1 = m[k].1)) = true ∨ (!decide (l[k].2 = m[k].2)) = true := by assumption
          go_ret
          refine ⟨ret_no fun e => ?_, hd.next _⟩
          subst e
          simp at hx
        · have hx : (!decide (l[k].1 = m[k].1)) = false ∧ (!decide (l[k].2 = m[k].2)) = false := by assumption
          go_roundw
          case rel => exact ⟨k + 1, by omega, by go_num, hd.next _, take_more hlt (by omega) hm.out (by simp at hx; exact Prod.ext hx.1 hx.2)⟩
          case measure => simp [intOf]; omega
      · go_wp2
        go_ret
        exact ⟨ret_yes (take_all hlt hl1 hl2 hm.out), hd⟩
  · have hne : (((l.length : Nat) : Int) != (m.length : Int)) = true := by simp; omega
    go_enter Try.func77, Try.ntmps77
    go_wp2
    go_ret
    exact ⟨ret_no fun e => he (by rw [e]), .refl _⟩

theorem same1 (v u : Value) (l m : List Row) (S S' : Blk) (w : World) (h : Sl tRow w S v l) (g : Sl tRow w S' u m) :
    Calls Try.prog 84 #[v, u] w (Quiet w (.bool (decide (l = m)))) := by
  go_enter Try.func84, Try.ntmps84
  go_wp2_with fail
  refine (eqRows v u l m S S' w h g).mono ?_; rintro e w1 ⟨rfl, d1⟩
  go_wp2
  go_ret
  exact ⟨rfl, d1⟩

set_option maxHeartbeats 400000 in
theorem eqfLev (v u : Value) (l m : List (List Row)) (S S' : Blk) (w : World) (h : Sl tRow.slice w S v l) (g : Sl tRow.slice w S' u m) :
    Calls Try.prog 83 #[v, u, .func (.func 84) #[] #[]] w (Quiet w (.bool (decide (l = m)))) := by
  obtain ⟨ao, cap, rfl, hcap, hmax, hnil⟩ := h.shape
  obtain ⟨ao', cap', rfl, hcap', hmax', hnil'⟩ := g.shape
  unfold maxLen at hmax hmax'
  by_cases he : l.length = m.length
  · have hne : (((l.length : Nat) : Int) != (m.length : Int)) = false := by simp [he]
    have hl1 : l.length ≤ m.length := by omega
    have hl2 : m.length ≤ l.length := by omega
    clear he
    go_enter Try.func83, Try.ntmps83
    go_wp2
    go_loopw [17] (fun i wr => ∃ (k : Nat), k ≤ l.length ∧ i = .int .i64 k ∧ Drawn w wr ∧ Hid (l.take k = m.take k)) (fun i _ => l.length - (intOf i).toNat)
    case atStart => exact ⟨0, Nat.zero_le _, rfl, .refl _, rfl⟩
    case round =>
      obtain ⟨k, hk, rfl, hd, hm⟩ := hrel
      by_cases hlt : k < l.length
      · obtain ⟨b, o, a1, c1, hix, _, hbs, hs1, _, _, hc0⟩ := (h.call hd.below).idxSl aLev k k rfl hlt
        obtain ⟨b', o', a2, c2, hix', _, hbs', hs2, _, _, hc0'⟩ := (g.call hd.below).idxSl aLev k k rfl (by omega)
        cases hq : decide (l[k] = m[k]) with
        | true =>
          go_wp2_with fail
          refine (same1 _ _ _ _ _ _ _ hs1 hs2).mono ?_; rintro e w1 ⟨rfl, d1⟩
          rw [hq]
          go_wp2
          go_roundw
          case rel => exact ⟨k + 1, by omega, by go_num, hd.trans d1, take_more hlt (by omega) hm.out (by simpa using hq)⟩
          case measure => simp [intOf]; omega
        | false =>
          go_wp2_with fail
          refine (same1 _ _ _ _ _ _ _ hs1 hs2).mono ?_; rintro e w1 ⟨rfl, d1⟩
          rw [hq]
          go_wp2
          go_ret
          refine ⟨ret_no fun e => ?_, hd.trans d1⟩
          subst e
          simp at hq
      · go_wp2
        go_ret
        exact ⟨ret_yes (take_all hlt hl1 hl2 hm.out), hd⟩
  · have hne : (((l.length : Nat) : Int) != (m.length : Int)) = true := by simp; omega
    go_enter Try.func83, Try.ntmps83
    go_wp2
    go_ret
    exact ⟨ret_no fun e => he (by rw [e]), .refl _⟩

theorem same (v u : Value) (l m : List (List Row)) (S S' : Blk) (w : World) (h : Sl tRow.slice w S v l) (g : Sl tRow.slice w S' u m) :
    Calls Try.prog 68 #[v, u] w (Quiet w (.bool (decide (l = m)))) := by
  go_enter Try.func68, Try.ntmps68
  go_wp2_with fail
  refine (eqfLev v u l m S S' w h g).mono ?_; rintro e w1 ⟨rfl, d1⟩
  go_wp2
  go_ret
  exact ⟨rfl, d1⟩

set_option maxHeartbeats 400000 in
theorem eqfTree (v u : Value) (l m : List (List (List Row))) (S S' : Blk) (w : World) (h : Sl tRow.slice.slice w S v l) (g : Sl tRow.slice.slice w S' u m) :
    Calls Try.prog 67 #[v, u, .func (.func 68) #[] #[]] w (Quiet w (.bool (decide (l = m)))) := by
  obtain ⟨ao, cap, rfl, hcap, hmax, hnil⟩ := h.shape
  obtain ⟨ao', cap', rfl, hcap', hmax', hnil'⟩ := g.shape
  unfold maxLen at hmax hmax'
  by_cases he : l.length = m.length
  · have hne : (((l.length : Nat) : Int) != (m.length : Int)) = false := by simp [he]
    have hl1 : l.length ≤ m.length := by omega
    have hl2 : m.length ≤ l.length := by omega
    clear he
    go_enter Try.func67, Try.ntmps67
    go_wp2
    go_loopw [17] (fun i wr => ∃ (k : Nat), k ≤ l.length ∧ i = .int .i64 k ∧ Drawn w wr ∧ Hid (l.take k = m.take k)) (fun i _ => l.length - (intOf i).toNat)
    case atStart => exact ⟨0, Nat.zero_le _, rfl, .refl _, rfl⟩
    case round =>
      obtain ⟨k, hk, rfl, hd, hm⟩ := hrel
      by_cases hlt : k < l.length
      · obtain ⟨b, o, a1, c1, hix, _, hbs, hs1, _, _, hc0⟩ := (h.call hd.below).idxSl aTree k k rfl hlt
        obtain ⟨b', o', a2, c2, hix', _, hbs', hs2, _, _, hc0'⟩ := (g.call hd.below).idxSl aTree k k rfl (by omega)
        cases hq : decide (l[k] = m[k]) with
        | true =>
          go_wp2_with fail
          refine (same _ _ _ _ _ _ _ hs1 hs2).mono ?_; rintro e w1 ⟨rfl, d1⟩
          rw [hq]
          go_wp2
          go_roundw
          case rel => exact ⟨k + 1, by omega, by go_num, hd.trans d1, take_more hlt (by omega) hm.out (by simpa using hq)⟩
          case measure => simp [intOf]; omega
        | false =>
          go_wp2_with fail
          refine (same _ _ _ _ _ _ _ hs1 hs2).mono ?_; rintro e w1 ⟨rfl, d1⟩
          rw [hq]
          go_wp2
          go_ret
          refine ⟨ret_no fun e => ?_, hd.trans d1⟩
          subst e
          simp at hq
      · go_wp2
        go_ret
        exact ⟨ret_yes (take_all hlt hl1 hl2 hm.out), hd⟩
  · have hne : (((l.length : Nat) : Int) != (m.length : Int)) = true := by simp; omega
    go_enter Try.func67, Try.ntmps67
    go_wp2
    go_ret
    exact ⟨ret_no fun e => he (by rw [e]), .refl _⟩

end Go.Pch
