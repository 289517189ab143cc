/- The walk of OwnTree. -/
import Derived.Test.YtdbecbjhgiljoaaTreeG
import Derived.Test.YtdbecbjhgiljoaaPoke
namespace Go.Pch
open Go.RowKit Go.Proofs

theorem Own.fslice {α : Type} {E : Ty α} {e : TypeId} {w : World} {B : Nat} {C D : Blk} {v : Value} {l : List α} (h : Own E e w B C v l) (hC : ∀ k, C k → D k) (hB : ∀ k, B ≤ k → D k) : E.fslice.rd w D [v] l := by
  refine ⟨h.sl hC hB, fun hl => ?_⟩
  obtain ⟨xs, hr, hE⟩ := h
  have hr' := hr
  rcases hr.2 with ⟨rfl, h0⟩ | ⟨g, cap, cur, rfl, hb, hg, _⟩
  · exact absurd (List.eq_nil_of_length_eq_zero h0) hl
  · exact ⟨g, 0, _, cap, rfl, hB g hb, (Array.getElem?_eq_some_iff.1 hg).1, cur, e, hg⟩

theorem aFLev : At Try.prog tRow.fslice 23 22 := At.mk' Try.underlying23 (z := .slice none 0 0) (size := 1) (bytes := 24) (by kernel_rfl) rfl rfl (by decide)
theorem aFTree : At Try.prog tRow.fslice.slice 39 23 := At.mk' Try.underlying39 (z := .slice none 0 0) (size := 1) (bytes := 24) (by kernel_rfl) rfl rfl (by decide)

set_option maxRecDepth 100000 in
set_option maxHeartbeats 1000000 in
theorem refOwnTree (v : Value) (t : List (List (List Row))) (S : Blk) (w : World) (h : Sl tRow.slice.slice w S v t) (hl : t.length ≤ 1000) (hls : ∀ (i : Nat) lv, t[i]? = some lv → lv.length ≤ 1000 ∧ ∀ (j : Nat) c, lv[j]? = some c → c.length ≤ 1000) :
    Calls Try.prog 60 #[v] w (Ret w fun r w' => Sl tRow.fslice.slice w' (fun k => w.heap.size ≤ k) r t) := by
  have hv := h.old
  obtain ⟨ao, cap, rfl, hcap, hmax, hnil⟩ := h.shape
  unfold maxLen at hmax
  have HLS := keepBack hls
  clear hls
  go_enter Try.func60, Try.ntmps60
  go_wp2
  go_loopw [3, 4] (fun out i wr => ∃ (n : Nat), n ≤ t.length ∧ i = .int .i64 n ∧ Below w.heap.size w wr ∧ Own tRow.fslice.slice 23 wr w.heap.size (fun k => w.heap.size ≤ k) out (t.take n)) (fun _ i _ => t.length - (intOf i).toNat)
  case atStart => exact ⟨0, Nat.zero_le _, rfl, Below.refl _ _, .nil⟩
  case round =>
    obtain ⟨n, hn, rfl, hb, ho⟩ := hrel
    have hs := hb.size
    by_cases hlt : n < t.length
    · obtain ⟨X, hX⟩ : ∃ X, t[n]? = some X := ⟨t[n], List.getElem?_eq_getElem hlt⟩
      obtain ⟨b, o, a2, c2, hix, _, hbs, hsx, hc2, hcm2, hc00⟩ := hv.idxSlAt aTree n n X X.length rfl hX rfl
      have HX := HLS.out n X hX
      have hX1 := HX.1
      have HX2 := keepBack HX.2
      have HN : Hid (t.take (n + 1) = t.take n ++ [X]) := keepBack (by rw [List.take_add_one, hX]; rfl)
      have hlen : (t.take n).length = n := by simp; omega
      clear HX hX
      generalize t.take n = T at *
      have HT := keepBack (show T.length ≤ n by omega)
      clear hlen
      unfold maxLen at hcm2
      obtain ⟨wo, rfl⟩ : ∃ wo : World, wo = wr := ⟨_, rfl⟩
      have hob := ho.block
      go_wp2
      go_loopw [5, 6] (fun lv i wr' => ∃ (j : Nat), j ≤ X.length ∧ i = .int .i64 j ∧ Below wo.heap.size wo wr' ∧ Own tRow.fslice 22 wr' wo.heap.size (fun k => wo.heap.size ≤ k) lv (X.take j)) (fun _ i _ => X.length - (intOf i).toNat)
      case atStart => exact ⟨0, Nat.zero_le _, rfl, Below.refl _ _, .nil⟩
      case round =>
        obtain ⟨j, hj, rfl, hb2, hol⟩ := hrel
        have hs2 := hb2.size
        have hbw := hb.trans (hb2.mono hs)
        have hc0 := (hbw.cell (p := ⟨b, o, none⟩) hbs).trans hc00
        by_cases hlt2 : j < X.length
        · obtain ⟨ck, hck⟩ : ∃ ck, X[j]? = some ck := ⟨X[j], List.getElem?_eq_getElem hlt2⟩
          obtain ⟨b', o', a3, c3, hix', _, hbs', hsk0, hc3, hcm3, hc000⟩ := hsx.idxSlAt aLev j j ck ck.length rfl hck rfl
          have hcell := (hbw.cell (p := ⟨b', o', none⟩) hbs').trans hc000
          have hckl := HX2.out j ck hck
          have HJ : Hid (X.take (j + 1) = X.take j ++ [ck]) := keepBack (by rw [List.take_add_one, hck]; rfl)
          have hlen : (X.take j).length = j := by simp; omega
          clear hck
          generalize X.take j = L at *
          have HLn := keepBack (show L.length ≤ j by omega)
          clear hlen
          obtain ⟨al, cl, rfl, _, _⟩ := hol.shape
          have hobl := hol.block
          have hbA := hbw.alloc hbw.size (.cells #[] 31)
          have hcA0 := (hbA.cell (p := ⟨b, o, none⟩) hbs).trans hc00
          have hcA1 := (hbA.cell (p := ⟨b', o', none⟩) hbs').trans hc000
          have hsrc := Src.row (D' := fun _ => False) (hsk0.below hbA).src
          have hna := hsk0.noAddr
          go_wp2_with (at_builtin; refine wpList_grow rfl (.tmp 23) (.tmp 30) rfl aRow rfl (Own.made (B := wr.heap.size) (C := fun _ => False) _ (Nat.le_refl _)) rfl rfl hsrc hna (fun _ h => h.elim) (by simp; omega) (by simp) ?_)
          intro v1 w1 ho1 hg1
          have hb1 : Below wr.heap.size wr w1 := ((Below.refl _ _).alloc (Nat.le_refl _) _).grown hg1 (by simp) (fun g hg => by simp [Value.ownBlock] at hg; omega)
          have hs1 := hb1.size
          have hol1 := hol.call hb1
          have hf1 := ho1.fslice (D := fun k => wr.heap.size ≤ k) (fun _ h => h.elim) (fun _ h => h)
          obtain ⟨a4, c4, rfl, _, _⟩ := ho1.shape
          go_wp2_with (at_builtin; refine wpList_grow rfl (.tmp 22) (.tmp 32) rfl aFLev rfl (hol1.alloc _) rfl (by simp) (Src.one (cs := [_]) hf1 _) (by simp) (fun k hk _ => ⟨Nat.le_trans hs2 hk, fun e => by have := hobl k e.symm; omega⟩) (by have := HLn.out; simp; omega) (by simp; omega) ?_)
          intro v2 w2 ho2 hg2
          have hb3 : Below wo.heap.size wo w2 := ((hb2.trans (hb1.mono hs2)).alloc (by omega) _).grown hg2 (by simp; omega) (fun g hg => (hobl g hg).1)
          obtain ⟨a5, c5, rfl, _, _⟩ := ho2.shape
          go_wp2
          go_roundw
          case rel => exact ⟨j + 1, by omega, by go_num, hb3, by rw [HJ.out]; exact ho2⟩
          case measure => simp [intOf]; omega
        · obtain rfl : j = X.length := by omega
          rw [List.take_length] at hol
          have hlv : Sl tRow.fslice wr (fun k => wo.heap.size ≤ k) _ X := hol.sl (fun _ h => h) (fun _ h => h)
          obtain ⟨al, cl, rfl, _, _, _⟩ := hlv.shape
          have hoo := ho.call hb2
          obtain ⟨ag, cg, rfl, _, _⟩ := ho.shape
          go_wp2_with (at_builtin; refine wpList_grow rfl (.tmp 34) (.tmp 36) rfl aFTree rfl (hoo.alloc _) rfl (by simp) (Src.one (cs := [_]) hlv _) (by simp) (fun k hk _ => ⟨Nat.le_trans hs hk, fun e => by have := hob k e.symm; omega⟩) (by have := HT.out; simp; omega) (by simp; omega) ?_)
          intro v2 w2 ho2 hg2
          have hb3 : Below w.heap.size w w2 := (hbw.alloc hbw.size _).grown hg2 (by simp; omega) (fun g hg => (hob g hg).1)
          obtain ⟨a5, c5, rfl, _, _⟩ := ho2.shape
          go_wp2
          go_roundw
          case rel => exact ⟨n + 1, by omega, by go_num, hb3, by rw [HN.out]; exact ho2⟩
          case measure => simp [intOf]; omega
    · obtain rfl : n = t.length := by omega
      go_wp2
      go_ret
      rw [List.take_length] at ho
      exact ⟨_, rfl, ho.sl (fun _ h => h) (fun _ h => h), hb⟩

end Go.Pch
