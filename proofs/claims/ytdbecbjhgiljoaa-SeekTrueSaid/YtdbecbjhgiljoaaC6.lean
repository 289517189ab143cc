/- The walks of the laws' own helpers on chunks. -/
import Derived.Test.YtdbecbjhgiljoaaC5
import Derived.Test.YtdbecbjhgiljoaaFew
namespace Go.Pch
open Go.RowKit Go.Proofs

def manyL (k : Nat) : List Row := (List.range k).map fun (i : Nat) => ((3 * (i : Int), (i : Int)) : Row)

set_option maxHeartbeats 400000 in
theorem lawMany (w : World) : Calls Try.prog 51 #[] w (Ret w fun r w' => Sl tRow w' (fun k => w.heap.size ≤ k) r (manyL 12)) := by
  go_enter Try.func51, Try.ntmps51
  go_wp2
  go_loopw [1, 2] (fun v i wr => ∃ k : Nat, k ≤ 12 ∧ i = .int .i64 k ∧ Own tRow 31 wr w.heap.size (fun _ => False) v (manyL k) ∧ Below w.heap.size w wr) (fun _ i _ => 12 - (intOf i).toNat)
  case atStart => exact ⟨0, by omega, rfl, .nil, Below.refl _ _⟩
  case round =>
    obtain ⟨k, hk, rfl, ho, hb⟩ := hrel
    have hsz := hb.size
    by_cases hlt : k < 12
    · have hlen : (manyL k).length = k := by simp [manyL]
      have hsrc := fun t => Src.one (w := wr) (D := fun _ => False) (tRow_mk wr (fun _ => False) (3 * (k : Int)) k (ok_small (by omega)) (ok_small (by omega))) t
      have HL := keepBack hlen
      clear hlen
      go_wp2_with (at_builtin; refine wpList_grow rfl (.tmp 7) (.tmp 12) rfl aRow rfl (ho.alloc _) rfl (by simp) (hsrc _) (by simp) (fun _ h => h.elim) (by rw [HL.out]; simp; omega) (by simp; omega) ?_)
      intro v2 w2 ho2 hg2
      have hb2 : Below w.heap.size w w2 := (hb.alloc hsz _).grown hg2 (by simp; omega) (fun g hg => (ho.block g hg).1)
      go_wp2
      go_roundw
      case rel => exact ⟨k + 1, by omega, by go_num, by rw [manyL, List.range_succ, List.map_append]; exact ho2, hb2⟩
      case measure => simp [intOf]; omega
    · obtain rfl : k = 12 := by omega
      go_wp2
      go_ret
      exact ⟨_, rfl, ho.sl (fun _ h => h.elim) (fun _ h => h), hb⟩

theorem cutMany : cutL (manyL 12) 0 = ([[(0, 0), (3, 1), (6, 2), (9, 3)], [(12, 4), (15, 5), (18, 6)], [(21, 7), (24, 8), (27, 9)], [(30, 10), (33, 11)]], 0) := by decide
theorem sumFew : sumOfL fewL = (805, 0) := by decide
theorem cutFew : cutL fewL 10 = ([], 3) := by decide
theorem sumNil : sumOfL [] = (1, 0) := by decide

theorem chunkCut_of {c : List (List Row) × Int} (v : Value) (l : List Row) (n : Int) (S : Blk) (w : World) (h : Sl tRow w S v l) (hc : cutL l n = c) :
    Calls Try.prog 15 #[v, .int .i64 n] w (Ret w fun r w' => ∃ x, r = .tuple #[x, .int .i64 c.2] ∧ Sl tRow.slice w' (fun k => w.heap.size ≤ k) x c.1) := hc ▸ chunkCut v l n S w h
theorem chunkSum_of {c : Int × Int} (v : Value) (l : List Row) (S : Blk) (w : World) (h : Sl tRow w S v l) (hc : sumOfL l = c) :
    Calls Try.prog 19 #[v] w (Ret w fun r _ => r = .tuple #[.int .i64 c.1, .int .i64 c.2]) := hc ▸ chunkSum v l S w h
theorem chunkEnds_of {c : Bool} (a b n : Int) (w : World) (h : endsB (a, b) n = c) :
    Calls Try.prog 21 #[.agg #[.int .i64 a, .int .i64 b], .int .i64 n] w (Ret w fun v _ => v = .bool c) := h ▸ chunkEnds (a, b) n w

set_option maxHeartbeats 1000000 in
theorem chunkBegun (w : World) : Calls Try.prog 17 #[] w (Ret w fun r _ => r = .bool true) := by
  go_enter Try.func17, Try.ntmps17
  go_wp2_with fail
  refine (lawMany _).mono ?_; rintro e w1 ⟨v1, rfl, h1, b1⟩
  go_wp2_with fail
  refine (chunkCut_of _ _ _ _ w1 h1 cutMany).mono ?_; rintro e w2 ⟨_, rfl, ⟨x2, rfl, h2⟩, b2⟩
  obtain ⟨ao2, cap2, rfl, _, _, _⟩ := h2.shapeAt 4 rfl
  have s1 := b1.size
  have s2 := b2.size
  go_wp2_with fail
  refine (lawFew _).mono ?_; rintro e w3 ⟨v3, rfl, h3, b3⟩
  have s3 := b3.size
  go_wp2_with fail
  refine (chunkSum_of _ _ _ w3 h3 sumFew).mono ?_; rintro e w4 ⟨_, rfl, rfl, b4⟩
  have s4 := b4.size
  go_wp2_with fail
  refine (lawFew _).mono ?_; rintro e w5 ⟨v5, rfl, h5, b5⟩
  have s5 := b5.size
  go_wp2_with fail
  refine (chunkCut_of _ _ _ _ w5 h5 cutFew).mono ?_; rintro e w6 ⟨_, rfl, ⟨x6, rfl, h6⟩, b6⟩
  have s6 := b6.size
  go_wp2_with fail
  refine (chunkSum_of _ _ _ w6 (Sl.nil tRow w6 fun _ => False) sumNil).mono ?_; rintro e w7 ⟨_, rfl, rfl, b7⟩
  have s7 := b7.size
  have b27 : Below w2.heap.size w2 w7 := ((((b3.trans (b4.mono s3)).trans (b5.mono (by omega))).trans (b6.mono (by omega))).trans (b7.mono (by omega)))
  have h27 := h2.call b27
  obtain ⟨p0, o0, a0, c0, i0, _, _, _, _, _, q0⟩ := h27.idxSlAt aLev 0 0 _ 4 rfl rfl rfl
  obtain ⟨p1, o1, a1, c1, i1, _, _, _, _, _, q1⟩ := h27.idxSlAt aLev 1 1 _ 3 rfl rfl rfl
  obtain ⟨p3, o3, a3, c3, i3, _, _, _, _, _, q3⟩ := h27.idxSlAt aLev 3 3 _ 2 rfl rfl rfl
  clear h2 h27
  go_wp2_with fail
  refine (chunkEnds_of (c := true) 9 3 0 _ (by decide)).mono ?_; rintro e w8 ⟨_, rfl, rfl, b8⟩
  go_wp2_with fail
  refine (chunkEnds_of (c := false) 9 4 0 _ (by decide)).mono ?_; rintro e w9 ⟨_, rfl, rfl, b9⟩
  go_wp2_with fail
  refine (chunkEnds_of (c := false) (-3) 3 0 _ (by decide)).mono ?_; rintro e w10 ⟨_, rfl, rfl, b10⟩
  have s8 := b8.size
  have s9 := b9.size
  go_wp2
  go_ret
  exact ⟨_, rfl, rfl, (((((b1.trans (b2.mono (by omega))).trans (b27.mono (by omega))).trans (b8.mono (by omega))).trans (b9.mono (by omega))).trans (b10.mono (by omega)))⟩

end Go.Pch
