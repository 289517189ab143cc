/- The walks of package chunk and of what the document says of chunks: Ends, Sum, comparing. The walks of cmp.Compare, of the binary search of rows, and of rows.Seek, Of, Find. -/
import Derived.Test.YtdclpbdmdpakkaaMm17
import Derived.Test.YtdclpbdmdpakkaaMm4
import Derived.Test.YtdclpbdmdpakkaaMm12
section
namespace Go.Pch
open Go.RowKit Go.Proofs

theorem rowsVal_of (k : Int) (w : World) {c : Bool} (h : valB k = c) : Calls Try.prog 61 #[.int .i64 k] w fun e w' => e = .returned (.bool c) ∧ w = w' := h ▸ rowsVal k w





set_option maxRecDepth 100000 in
set_option maxHeartbeats 400000 in
theorem refSameRows (v u : Value) (l m : List Row) (S S' : Blk) (w : World) (h : Sl tRow w S v l) (g : Sl tRow w S' u m) :
    Calls Try.prog 19 #[v, u] w (Quiet w (.bool (decide (l = m)))) := by
  obtain ⟨ao, cap, rfl, hcap, hmax, hnil⟩ := h.shape
  obtain ⟨ao', cap', rfl, hcap', hmax', hnil'⟩ := g.shape
  unfold maxLen at hmax hmax'
  by_cases he : l.length = m.length
  · have hne : (((l.length : Nat) : Int) != (m.length : Int)) = false := by simp [he]
    have hl1 : l.length ≤ m.length := by omega
    have hl2 : m.length ≤ l.length := by omega
    clear he
    go_enter Try.func19, Try.ntmps19
    go_wp2
    go_loopw [5] (fun i wr => ∃ (k : Nat), k ≤ l.length ∧ i = .int .i64 k ∧ Drawn w wr ∧ Hid (l.take k = m.take k)) (fun i _ => l.length - (intOf i).toNat)
    case atStart => exact ⟨0, Nat.zero_le _, rfl, .refl _, rfl⟩
    case round =>
      obtain ⟨k, hk, rfl, hd, hm⟩ := hrel
      by_cases hlt : k < l.length
      · obtain ⟨b, o, hix, _, hbs, ok1, ok2, hc0, hc1⟩ := (h.call hd.below).idxRow aRow k k rfl hlt
        obtain ⟨b', o', hix', _, hbs', ok1', ok2', hc0', hc1'⟩ := (g.call hd.below).idxRow aRow k k rfl (by omega)
        have hg := rowGuard
        have he := rowEqual l[k].1 l[k].2 m[k].1 m[k].2
        go_wp2
        go_quiet (fail)
        go_wp2
        · have hx : (!decide (l[k].1 = m[k].1)) = true ∨ (!decide (l[k].2 = m[k].2)) = true := by assumption
          go_ret
          refine ⟨ret_no fun e => ?_, hd.next _⟩
          subst e
          simp at hx
        · have hx : (!decide (l[k].1 = m[k].1)) = false ∧ (!decide (l[k].2 = m[k].2)) = false := by assumption
          go_roundw
          case rel => exact ⟨k + 1, by omega, by go_num, hd.next _, take_more hlt (by omega) hm.out (by simp at hx; exact Prod.ext hx.1 hx.2)⟩
          case measure => simp [intOf]; omega
      · go_wp2
        go_ret
        exact ⟨ret_yes (take_all hlt hl1 hl2 hm.out), hd⟩
  · have hne : (((l.length : Nat) : Int) != (m.length : Int)) = true := by simp; omega
    go_enter Try.func19, Try.ntmps19
    go_wp2
    go_ret
    exact ⟨ret_no fun e => he (by rw [e]), .refl _⟩

end Go.Pch
end

section
namespace Go.Pch
open Go.RowKit Go.Proofs

/-- What cmp.Compare says. -/
def cmpI (a b : Int) : Int := if a < b then -1 else if b < a then 1 else 0

theorem notNaN (a : Int) (w : World) : Calls Try.prog 121 #[.int .i64 a] w fun e w' => e = .returned (.bool false) ∧ w = w' := by
  have h : (a != a) = false := by simp
  go_enter Try.func121, Try.ntmps121
  go_wp2
  go_ret
  exact ⟨rfl, rfl⟩
theorem compareInt (a b : Int) (w : World) : Calls Try.prog 105 #[.int .i64 a, .int .i64 b] w fun e w' => e = .returned (.int .i64 (cmpI a b)) ∧ w = w' := by
  rcases Int.lt_trichotomy a b with h | h | h
  · have hc : cmpI a b = -1 := by rw [cmpI, if_pos h]
    rw [hc]
    go_enter Try.func105, Try.ntmps105
    go_wp2_with (go_at_call 121; refine (notNaN _ _).mono ?_; rintro e w' ⟨rfl, rfl⟩)
    go_ret
    exact ⟨rfl, rfl⟩
  · subst h
    have hc : cmpI a a = 0 := by rw [cmpI, if_neg (by omega), if_neg (by omega)]
    rw [hc]
    go_enter Try.func105, Try.ntmps105
    go_wp2_with (go_at_call 121; refine (notNaN _ _).mono ?_; rintro e w' ⟨rfl, rfl⟩)
    go_ret
    exact ⟨rfl, rfl⟩
  · have h' : ¬ a < b := by omega
    have hc : cmpI a b = 1 := by rw [cmpI, if_neg h', if_pos h]
    rw [hc]
    go_enter Try.func105, Try.ntmps105
    go_wp2_with (go_at_call 121; refine (notNaN _ _).mono ?_; rintro e w' ⟨rfl, rfl⟩)
    go_ret
    exact ⟨rfl, rfl⟩
theorem seek1 (a b key : Int) (w : World) : Calls Try.prog 104 #[.agg #[.int .i64 a, .int .i64 b], .int .i64 key] w (Ret w fun r _ => r = .int .i64 (cmpI a key)) := by
  go_enter Try.func104, Try.ntmps104
  go_wp2_with (go_at_call 105; refine (compareInt _ _ _).mono ?_; rintro e w' ⟨rfl, rfl⟩)
  go_ret
  exact ⟨_, rfl, rfl, (Below.refl _ _).alloc (Nat.le_refl _) _⟩

set_option maxRecDepth 100000 in
set_option maxHeartbeats 1000000 in
theorem searchRows (v : Value) (l : List Row) (key : Int) (S : Blk) (w : World) (h : Sl tRow w S v l) (hr : riseB (-1) l = true) (hl : l.length ≤ 1000000) :
    Calls Try.prog 103 #[v, .int .i64 key, .func (.func 104) #[] #[]] w (Ret w fun r _ => r = .tuple #[.int .i64 (seekN l key : Nat), .bool (hasB l key)]) := by
  have hv := h.old
  obtain ⟨ao, cap, rfl, hcap, hmax, hnil⟩ := h.shape
  unfold maxLen at hmax
  have HR := keepBack hr
  clear hr
  go_enter Try.func103, Try.ntmps103
  go_wp2
  go_loopw [9, 10] (fun a b wr => ∃ (i j : Nat), i ≤ j ∧ j ≤ l.length ∧ a = .int .i64 i ∧ b = .int .i64 j ∧ Below w.heap.size w wr ∧ Hid (∀ (k : Nat) (hk : k < l.length), k < i → l[k].1 < key) ∧ Hid (∀ (k : Nat) (hk : k < l.length), j ≤ k → key ≤ l[k].1)) (fun a b _ => (intOf b).toNat - (intOf a).toNat)
  case atStart => exact ⟨0, l.length, Nat.zero_le _, Nat.le_refl _, rfl, rfl, Below.refl _ _, fun k _ h => by omega, fun k hk h => by omega⟩
  case round =>
    obtain ⟨i, j, hij, hjl, rfl, rfl, hb, H1, H2⟩ := hrel
    have hs := hb.size
    by_cases hlt : i < j
    · obtain ⟨m, hmm, hm1, hm2⟩ : ∃ m : Nat, ((i : Int) + (j : Int)) / 2 = (m : Int) ∧ i ≤ m ∧ m < j := ⟨(i + j) / 2, by omega, by omega, by omega⟩
      have hml : m < l.length := by omega
      obtain ⟨b, o, hix, _, hbs, ok1, ok2, hc0, hc1⟩ := (hv.below hb).idxRow aRow m m rfl hml
      have HLo := keepBack (fun (hlo : l[m].1 < key) (k : Nat) (hk : k < l.length) (hkm : k < m + 1) => show l[k].1 < key by
        have hr := HR.out
        rcases Nat.lt_or_ge k m with h1 | h1
        · have := rise_lt hr h1 hml; omega
        · obtain rfl : k = m := by omega
          exact hlo)
      have HHi := keepBack (fun (hhi : key ≤ l[m].1) (k : Nat) (hk : k < l.length) (hkm : m ≤ k) => show key ≤ l[k].1 by
        have hr := HR.out
        rcases Nat.lt_or_ge m k with h1 | h1
        · have := rise_lt hr h1 hk; omega
        · obtain rfl : k = m := by omega
          exact hhi)
      generalize l[m] = r at *
      by_cases hlo : r.1 < key
      · have HC := keepBack (show cmpI r.1 key = -1 by rw [cmpI, if_pos hlo])
        have H1' := keepBack (HLo.out hlo)
        clear hlo
        go_wp2_with fail
        refine (seek1 _ _ _ _).mono ?_; rintro e w1 ⟨_, rfl, rfl, b1⟩
        rw [HC.out]
        go_wp2
        go_roundw
        case rel => exact ⟨m + 1, j, by omega, hjl, by go_num, rfl, hb.trans (b1.mono hs), H1', H2⟩
        case measure => simp [intOf]; omega
      · have HC := keepBack (show 0 ≤ cmpI r.1 key by rw [cmpI, if_neg hlo]; split <;> omega)
        have H2' := keepBack (HHi.out (by omega))
        clear hlo
        go_wp2_with fail
        refine (seek1 _ _ _ _).mono ?_; rintro e w1 ⟨_, rfl, rfl, b1⟩
        have hc' := HC.out
        generalize cmpI r.1 key = c at *
        go_wp2
        go_roundw
        case rel => exact ⟨i, m, hm1, by omega, rfl, rfl, hb.trans (b1.mono hs), H1, H2'⟩
        case measure => simp [intOf]; omega
    · obtain rfl : i = j := by omega
      have hsk := seekN_eq HR.out hjl H1.out H2.out
      by_cases hil : i < l.length
      · obtain ⟨b, o, hix, _, hbs, ok1, ok2, hc0, hc1⟩ := (hv.below hb).idxRow aRow i i rfl hil
        have HB := keepBack (show hasB l key = decide (l[i].1 = key) by rw [hasB, hsk, List.getElem?_eq_getElem hil])
        have HS := keepBack hsk
        clear hsk
        generalize l[i] = r at *
        have HQ : Hid ((cmpI r.1 key == 0) = decide (r.1 = key)) := keepBack (by
          rw [Bool.eq_iff_iff]
          simp only [beq_iff_eq, decide_eq_true_eq, cmpI]
          split
          · omega
          · split <;> omega)
        go_wp2_with fail
        refine (seek1 _ _ _ _).mono ?_; rintro e w1 ⟨_, rfl, rfl, b1⟩
        go_wp2
        go_ret2
        exact ⟨_, rfl, by rw [HS.out, HB.out, ← HQ.out]; rfl, hb.trans (b1.mono hs)⟩
      · obtain rfl : i = l.length := by omega
        have HB := keepBack (show hasB l key = false by rw [hasB, hsk, List.getElem?_eq_none (Nat.le_refl _)])
        have HS := keepBack hsk
        clear hsk
        go_wp2
        go_ret2
        exact ⟨_, rfl, by rw [HS.out, HB.out]; rfl, hb⟩

theorem rowsSeek (v : Value) (l : List Row) (key : Int) (S : Blk) (w : World) (h : Sl tRow w S v l) (hr : riseB (-1) l = true) (hl : l.length ≤ 1000000) :
    Calls Try.prog 91 #[v, .int .i64 key] w (Ret w fun r _ => r = .tuple #[.int .i64 (seekN l key : Nat), .bool (hasB l key)]) := by
  go_enter Try.func91, Try.ntmps91
  go_wp2_with fail
  refine (searchRows v l key S w h hr hl).mono ?_; rintro e w1 ⟨_, rfl, rfl, b1⟩
  go_wp2
  go_ret2
  exact ⟨_, rfl, rfl, b1⟩

theorem rowsOf (v : Value) (l : List Row) (key : Int) (S : Blk) (w : World) (h : Sl tRow w S v l) (hr : riseB (-1) l = true) (hl : l.length ≤ 1000000) :
    Calls Try.prog 64 #[v, .int .i64 key] w (Ret w fun r _ => r = .int .i64 (valueOf l key)) := by
  cases hk : hasB l key with
  | true =>
    obtain ⟨r, hr1, hr2, hr3⟩ := valueOf_has hr hk
    obtain ⟨hlt, hget⟩ := List.getElem?_eq_some_iff.1 hr1
    have HV := keepBack hr3
    have hsk := rowsSeek v l key S w h hr hl
    rw [hk] at hsk
    have hv := h.old
    obtain ⟨ao, cap, rfl, hcap, hmax, hnil⟩ := h.shape
    obtain ⟨b, o, hix, _, hbs, ok1, ok2, hc0, hc1⟩ := hv.idxRow aRow (seekN l key : Nat) (seekN l key) rfl hlt
    rw [hget] at hc0 hc1
    clear hget hr1 hr3 hr2
    generalize seekN l key = n at *
    go_enter Try.func64, Try.ntmps64
    go_wp2_with fail
    refine hsk.mono ?_; rintro e w1 ⟨_, rfl, rfl, b1⟩
    have hc1' := (b1.cell (p := ⟨b, o + 1, none⟩) hbs).trans hc1
    go_wp2
    go_ret
    exact ⟨_, rfl, by rw [HV.out]; rfl, b1⟩
  | false =>
    have HV := keepBack (valueOf_hasnt hr hk)
    have hsk := rowsSeek v l key S w h hr hl
    rw [hk] at hsk
    go_enter Try.func64, Try.ntmps64
    go_wp2_with fail
    refine hsk.mono ?_; rintro e w1 ⟨_, rfl, rfl, b1⟩
    go_wp2
    go_ret
    exact ⟨_, rfl, by rw [HV.out]; rfl, b1⟩


end Go.Pch
end
