/- The walks of the laws' own helpers on chunks. -/
import Derived.Test.YtipondhhchicjaaC5
import Derived.Test.YtipondhhchicjaaFew
namespace Go.Pch
open Go.RowKit Go.Proofs

def manyL (k : Nat) : List Row := (List.range k).map fun (i : Nat) => ((3 * (i : Int), (i : Int)) : Row)

set_option maxHeartbeats 400000 in
theorem lawMany (w : World) : Calls Try.prog 64 #[] w (Ret w fun r w' => Sl tRow w' (fun k => w.heap.size ≤ k) r (manyL 12)) := by
  go_enter Try.func64, Try.ntmps64
  go_wp2
  go_loopw [1, 2] (fun v i wr => ∃ k : Nat, k ≤ 12 ∧ i = .int .i64 k ∧ Own tRow 64 wr w.heap.size (fun _ => False) v (manyL k) ∧ Below w.heap.size w wr) (fun _ i _ => 12 - (intOf i).toNat)
  case atStart => exact ⟨0, by omega, rfl, .nil, Below.refl _ _⟩
  case round =>
    obtain ⟨k, hk, rfl, ho, hb⟩ := hrel
    have hsz := hb.size
    by_cases hlt : k < 12
    · have hlen : (manyL k).length = k := by simp [manyL]
      have hsrc := fun t => Src.one (w := wr) (D := fun _ => False) (tRow_mk wr (fun _ => False) (3 * (k : Int)) k (ok_small (by omega)) (ok_small (by omega))) t
      have HL := keepBack hlen
      clear hlen
      go_wp2_with (at_builtin; refine wpList_grow rfl (.tmp 7) (.tmp 12) rfl aRow rfl (ho.alloc _) rfl (by simp) (hsrc _) (by simp) (fun _ h => h.elim) (by rw [HL.out]; simp; omega) (by simp; omega) ?_)
      intro v2 w2 ho2 hg2
      have hb2 : Below w.heap.size w w2 := (hb.alloc hsz _).grown hg2 (by simp; omega) (fun g hg => (ho.block g hg).1)
      go_wp2
      go_roundw
      case rel => exact ⟨k + 1, by omega, by go_num, by rw [manyL, List.range_succ, List.map_append]; exact ho2, hb2⟩
      case measure => simp [intOf]; omega
    · obtain rfl : k = 12 := by omega
      go_wp2
      go_ret
      exact ⟨_, rfl, ho.sl (fun _ h => h.elim) (fun _ h => h), hb⟩

theorem cutMany : cutL (manyL 12) 0 = ([[(0, 0), (3, 1), (6, 2), (9, 3)], [(12, 4), (15, 5), (18, 6)], [(21, 7), (24, 8), (27, 9)], [(30, 10), (33, 11)]], 0) := by decide
theorem sumFew : sumOfL fewL = (805, 0) := by decide
theorem cutFew : cutL fewL 10 = ([], 3) := by decide
theorem sumNil : sumOfL [] = (1, 0) := by decide

theorem chunkEnds_of {c : Bool} (a b n : Int) (w : World) (h : endsB (a, b) n = c) :
    Calls Try.prog 97 #[.agg #[.int .i64 a, .int .i64 b], .int .i64 n] w (Ret w fun v _ => v = .bool c) := h ▸ chunkEnds (a, b) n w


end Go.Pch
