/- The walks of the document's RangeOf, of seekBegun and of the laws SeekFinds, SeekRanges, SeekTrue. -/
import Derived.Test.YtdbecbjhgiljoaaFindB
import Derived.Test.YtdbecbjhgiljoaaTreeQ
namespace Go.Pch
open Go.RowKit Go.Proofs

theorem range_take {l : List Row} {k : Nat} (hk : k < l.length) (a b : Int) : rangeL (l.take (k + 1)) a b = rangeL (l.take k) a b ++ if (decide (a ≤ l[k].1) && decide (l[k].1 ≤ b)) = true then [l[k]] else [] := by
  rw [List.take_succ_eq_append_getElem hk, rangeL, List.filter_append, List.filter_cons, List.filter_nil]; rfl
theorem range_len (l : List Row) (a b : Int) : (rangeL l a b).length ≤ l.length := List.length_filter_le _ _

set_option maxRecDepth 100000 in
set_option maxHeartbeats 1000000 in
theorem refRangeOf (v : Value) (t : List (List (List Row))) (a b : Int) (S : Blk) (w : World) (h : Sl tRow.slice.slice w S v t) (hl : (flatL t).length ≤ 2000000) :
    Calls Try.prog 46 #[v, .int .i64 a, .int .i64 b] w (Ret w fun r w' => ∃ x, r = .tuple #[x, .int .i64 (rangeP t a b).2] ∧ Sl tRow w' (fun k => w.heap.size ≤ k) x (rangeP t a b).1) := by
  by_cases he : treeErr t = 0
  · by_cases hbad : a < 0 ∨ b < a ∨ 99 < b
    · have HP := keepBack (rangeP_bad he hbad)
      rcases Int.lt_or_le a 0 with h1 | h1
      · clear hbad
        go_enter Try.func46, Try.ntmps46
        go_wp2_with fail
        refine (refTreeError v t S w h hl).mono ?_; rintro e w1 ⟨_, rfl, rfl, b1⟩
        rw [he]
        go_wp2
        go_ret2
        exact ⟨_, rfl, ⟨_, by rw [HP.out]; rfl, by rw [HP.out]; exact Sl.nil _ _ _⟩, b1⟩
      · rcases Int.lt_or_le b a with h2 | h2
        · clear hbad
          go_enter Try.func46, Try.ntmps46
          go_wp2_with fail
          refine (refTreeError v t S w h hl).mono ?_; rintro e w1 ⟨_, rfl, rfl, b1⟩
          rw [he]
          go_wp2
          go_ret2
          exact ⟨_, rfl, ⟨_, by rw [HP.out]; rfl, by rw [HP.out]; exact Sl.nil _ _ _⟩, b1⟩
        · have h3 : 99 < b := by omega
          clear hbad
          go_enter Try.func46, Try.ntmps46
          go_wp2_with fail
          refine (refTreeError v t S w h hl).mono ?_; rintro e w1 ⟨_, rfl, rfl, b1⟩
          rw [he]
          go_wp2
          go_ret2
          exact ⟨_, rfl, ⟨_, by rw [HP.out]; rfl, by rw [HP.out]; exact Sl.nil _ _ _⟩, b1⟩
    · have HP := keepBack (rangeP_ok he hbad)
      have g1 : 0 ≤ a := by omega
      have g2 : a ≤ b := by omega
      have g3 : b ≤ 99 := by omega
      clear hbad
      have hro := fun w1 h => refRowsOf v t S w1 h hl
      have hT := refTreeError v t S w h hl
      have hok := (treeErr_ok he).1
      obtain ⟨l, hfl⟩ : ∃ l, flatL t = l := ⟨_, rfl⟩
      rw [hfl] at hro hok HP
      clear hl hfl
      have h40 := (ok_rise hok).1
      clear hok
      go_enter Try.func46, Try.ntmps46
      go_wp2_with fail
      refine hT.mono ?_; rintro e w1 ⟨_, rfl, rfl, b1⟩
      rw [he]
      have s1 := b1.size
      go_wp2_with fail
      refine (hro w1 (h.call b1)).mono ?_; rintro e w2 ⟨x2, rfl, h2, b2⟩
      have s2 := b2.size
      have b02 := b1.trans (b2.mono s1)
      have hv := h2.old
      obtain ⟨a2, c2, rfl, _, hm2, _⟩ := h2.shape
      unfold maxLen at hm2
      clear hro
      go_wp2
      go_loopw [10, 11] (fun out i wr => ∃ k : Nat, k ≤ l.length ∧ i = .int .i64 k ∧ Below w2.heap.size w2 wr ∧ Own tRow 31 wr w2.heap.size (fun _ => False) out (rangeL (l.take k) a b)) (fun _ i _ => l.length - (intOf i).toNat)
      case atStart => exact ⟨0, Nat.zero_le _, rfl, Below.refl _ _, .nil⟩
      case round =>
        obtain ⟨k, hk, rfl, hb, ho⟩ := hrel
        have hs := hb.size
        by_cases hlt : k < l.length
        · obtain ⟨b', o, hix, _, hbs, ok1, ok2, hr0, hr1⟩ := hv.idxRow aRow k k rfl hlt
          have hc0 := (hb.cell (p := ⟨b', o, none⟩) hbs).trans hr0
          have hc1 := (hb.cell (p := ⟨b', o + 1, none⟩) hbs).trans hr1
          have HR := keepBack (range_take hlt a b)
          have hlen : (rangeL (l.take k) a b).length ≤ k := Nat.le_trans (range_len _ a b) (List.length_take_le k l)
          generalize l[k] = r at *
          cases hq : (decide (a ≤ r.1) && decide (r.1 ≤ b)) with
          | true =>
            have HR2 : Hid (rangeL (l.take (k + 1)) a b = rangeL (l.take k) a b ++ [r]) := keepBack (by rw [HR.out, hq, if_pos rfl])
            generalize rangeL (l.take k) a b = G at *
            obtain ⟨ag, cg, rfl, _, _⟩ := ho.shape
            have hob := ho.block
            go_wp2_with fail
            refine (refWithin_of _ _ _ wr hq).mono ?_; rintro e w' ⟨rfl, rfl⟩
            go_wp2_with (at_builtin; refine wpList_grow rfl (.tmp 44) (.tmp 49) rfl aRow rfl (ho.alloc _) rfl (by simp) (Src.one (cs := [_, _]) (tRow_mk wr (fun _ => False) r.1 r.2 ok1 ok2) _) (by simp) (fun _ h => h.elim) (by simp; omega) (by simp; omega) ?_)
            intro v3 w3 ho3 hg3
            have hb3 : Below w2.heap.size w2 w3 := (hb.alloc hs _).grown hg3 (by simp; omega) (fun g hg => (hob g hg).1)
            go_wp2
            go_roundw
            case rel => exact ⟨k + 1, by omega, by go_num, hb3, by rw [HR2.out]; exact ho3⟩
            case measure => simp [intOf]; omega
          | false =>
            have HR2 : Hid (rangeL (l.take (k + 1)) a b = rangeL (l.take k) a b) := keepBack (by rw [HR.out, hq, if_neg (by simp), List.append_nil])
            generalize rangeL (l.take k) a b = G at *
            go_wp2_with fail
            refine (refWithin_of _ _ _ wr hq).mono ?_; rintro e w' ⟨rfl, rfl⟩
            go_wp2
            go_roundw
            case rel => exact ⟨k + 1, by omega, by go_num, hb, by rw [HR2.out]; exact ho⟩
            case measure => simp [intOf]; omega
        · obtain rfl : k = l.length := by omega
          rw [List.take_length] at ho
          go_wp2
          go_ret2
          exact ⟨_, rfl, ⟨_, by rw [HP.out]; rfl, by rw [HP.out]; exact ho.sl (fun _ h => h.elim) (fun k hk => by omega)⟩, b02.trans (hb.mono (by omega))⟩
  · have he' : (treeErr t != 0) = true := by simp [he]
    have HP := keepBack (rangeP_err (a := a) (b := b) he)
    go_enter Try.func46, Try.ntmps46
    go_wp2_with fail
    refine (refTreeError v t S w h hl).mono ?_; rintro e w1 ⟨_, rfl, rfl, b1⟩
    go_wp2
    go_ret2
    exact ⟨_, rfl, ⟨_, by rw [HP.out]; rfl, by rw [HP.out]; exact Sl.nil _ _ _⟩, b1⟩

end Go.Pch
