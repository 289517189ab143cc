/- The walks of slices.Grow (at the nil slice) and slices.Concat. -/
import Derived.Test.YtipondhhchicjaaC4
import Derived.Lib.AppendZerosOnto
import Derived.Lib.SliceRun
namespace Go.Pch
open Go.RowKit Go.Proofs
set_option maxRecDepth 100000

theorem Sl.shortN {α : Type} {E : Ty α} {w : World} {S : Blk} {v : Value} {l : List α} (h : Sl E w S v l) : l.length ≤ maxLen := by
  obtain ⟨_, _, _, h1, h2, _⟩ := h.shape; omega

set_option maxHeartbeats 400000 in
theorem growNil (n : Nat) (w : World) (hn : n ≤ 2000000) :
    Calls Try.prog 78 #[.slice none 0 0, .int .i64 n] w (Ret w fun r w' => Own tRow 64 w' w.heap.size (fun _ => False) r []) := by
  by_cases h0 : n = 0
  · subst h0
    go_enter Try.func78, Try.ntmps78
    go_wp2
    go_ret
    exact ⟨_, rfl, .nil, Below.refl _ _⟩
  · obtain ⟨q, z, i1, i2, i3, i4, i5⟩ := aRow.info
    have hpos : 0 < n := by omega
    have hq0 : 0 < q.size := by rw [i3]; exact tRow.pos
    have hrz := fun ty => Lib.run_append_grow_zeros (P := Try.prog) w 22 3 ty 64 q z .i64 .i64 Try.underlying22 Try.underlying3 i1 i2 none 0 0 [] (run_firstCells_none w.drew q.size 0 0 0) n hpos hq0 (by omega) (by omega)
      (by have : n * q.bytes ≤ n * 64 := Nat.mul_le_mul_left _ i5
          omega) (growslice_fits (by omega) (by have : (0 + n) * q.bytes ≤ (0 + n) * 64 := Nat.mul_le_mul_left _ i5
                                                omega))
    simp only [Nat.zero_add] at hrz
    have hG := grownCap_ge w n 0 64
    have hG63 := grownCap_le_maxLen w n 0 64 (by unfold maxLen; omega)
    have hz : (#[] ++ Builtin.zeroCells z.cells n ++ Builtin.zeroCells z.cells (grownCap w n 0 64 - n)).size = grownCap w n 0 64 * tRow.size := by
      simp [Builtin.zeroCells, i4, ← Nat.add_mul]
      congr 1
      omega
    generalize grownCap w n 0 64 = G at *
    generalize (#[] ++ Builtin.zeroCells z.cells n ++ Builtin.zeroCells z.cells (G - n)) = Z at *
    go_enter Try.func78, Try.ntmps78
    go_wp2_with (at_builtin; refine Lib.wpList_append_run _ rfl _ _ _ _ rfl _ _ rfl rfl _ _ (hrz _) ?_)
    go_ret
    have hown : Own tRow 64 (w.alloc (.cells Z 64)) w.heap.size (fun _ => False) (.slice (some ⟨w.heap.size, 0, none⟩) 0 G) [] := ⟨[], World.ownsRow_made w Z G (Nat.le_refl _) hG63 hz, .nil⟩
    exact ⟨_, rfl, hown.keep fun _ _ _ => rfl, ((Below.refl _ _).alloc (Nat.le_refl _) _).drew⟩

set_option maxRecDepth 100000 in
set_option maxHeartbeats 1000000 in
theorem catRows (v : Value) (X : List (List Row)) (S : Blk) (w : World) (h : Sl tRow.slice w S v X) (hl : X.flatten.length ≤ 2000000) :
    Calls Try.prog 53 #[v] w (Ret w fun r w' => Sl tRow w' (fun k => w.heap.size ≤ k) r X.flatten) := by
  have hv := h.old
  obtain ⟨ao, cap, rfl, hcap, hmax, hnil⟩ := h.shape
  unfold maxLen at hmax
  have HL := keepBack hl
  go_enter Try.func53, Try.ntmps53
  go_wp2
  go_loop [3, 11] (fun s i => ∃ (j : Nat), j ≤ X.length ∧ i = .int .i64 j ∧ s = .int .i64 (skipN X j)) (fun _ i => X.length - (intOf i).toNat)
  case atStart => exact ⟨0, Nat.zero_le _, rfl, rfl⟩
  case round =>
    obtain ⟨j, hj, rfl, rfl⟩ := hrel
    by_cases hlt : j < X.length
    · obtain ⟨ck, hck⟩ : ∃ ck, X[j]? = some ck := ⟨X[j], List.getElem?_eq_getElem hlt⟩
      obtain ⟨b, o, a2, c2, hix, _, hbs, hsk0, hc2, hcm2, hc00⟩ := hv.idxSlAt aLev j j ck ck.length rfl hck rfl
      have hn : skipN X (j + 1) = skipN X j + ck.length := by rw [skipN, flatten_take_succ hck, List.length_append]; rfl
      have hle : skipN X (j + 1) ≤ 2000000 := Nat.le_trans (flatten_take_le X (j + 1)) HL.out
      rw [hn] at hle
      have HN := keepBack hn
      clear hn hck
      generalize skipN X j = s at *
      go_wp2
      go_round
      case rel => exact ⟨j + 1, by omega, by go_num, by rw [HN.out]; go_num⟩
      case measure => simp [intOf]; omega
    · obtain rfl : j = X.length := by omega
      have hsk : skipN X X.length ≤ 2000000 := Nat.le_trans (flatten_take_le X X.length) HL.out
      generalize skipN X X.length = N at *
      clear hl
      go_wp2_with fail
      refine (growNil N w hsk).mono ?_; rintro e w1 ⟨vo, rfl, hown, hb1⟩
      have hs1 := hb1.size
      go_wp2
      go_loopw [6, 27] (fun out i wr => ∃ (j : Nat), j ≤ X.length ∧ i = .int .i64 j ∧ Below w.heap.size w wr ∧ Own tRow 64 wr w.heap.size (fun _ => False) out (X.take j).flatten) (fun _ i _ => X.length - (intOf i).toNat)
      case atStart => exact ⟨0, Nat.zero_le _, rfl, hb1, hown⟩
      case round =>
        obtain ⟨j, hj, rfl, hb, ho⟩ := hrel
        have hs := hb.size
        by_cases hlt : j < X.length
        · obtain ⟨ck, hck⟩ : ∃ ck, X[j]? = some ck := ⟨X[j], List.getElem?_eq_getElem hlt⟩
          obtain ⟨b, o, a2, c2, hix, _, hbs, hsk0, hc2, hcm2, hc00⟩ := hv.idxSlAt aLev j j ck ck.length rfl hck rfl
          have hcell := (hb.cell (p := ⟨b, o, none⟩) hbs).trans hc00
          have hn : (X.take (j + 1)).flatten = (X.take j).flatten ++ ck := flatten_take_succ hck
          have hle : ((X.take (j + 1)).flatten).length ≤ 2000000 := Nat.le_trans (flatten_take_le X (j + 1)) HL.out
          rw [hn, List.length_append] at hle
          have HN := keepBack hn
          have hsrc := Src.row (D' := fun _ => False) (hsk0.below hb).src
          have hna := hsk0.noAddr
          clear hn hck
          generalize (X.take j).flatten = G at *
          obtain ⟨ag, cg, rfl, _, _⟩ := ho.shape
          have hob := ho.block
          go_wp2_with (at_builtin; refine wpList_grow rfl (.tmp 31) (.tmp 32) rfl aRow rfl ho rfl rfl hsrc hna (fun _ h => h.elim) (by omega) hs ?_)
          intro v2 w2 ho2 hg2
          have hb2 : Below w.heap.size w w2 := hb.grown hg2 hs (fun g hg => (hob g hg).1)
          go_wp2
          go_roundw
          case rel => exact ⟨j + 1, by omega, by go_num, hb2, by rw [HN.out]; exact ho2⟩
          case measure => simp [intOf]; omega
        · obtain rfl : j = X.length := by omega
          go_wp2
          go_ret
          rw [List.take_length] at ho
          exact ⟨_, rfl, ho.sl (fun _ h => h.elim) (fun _ h => h), hb⟩

end Go.Pch
