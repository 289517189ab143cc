/- The walks of the laws on chunks. -/
import Derived.Test.YtdbecbjhgiljoaaC6
import Derived.Deep.RegionHeld3
namespace Go.Pch
open Go.RowKit Go.Proofs

set_option maxHeartbeats 400000 in
theorem lawChunkCuts (v : Value) (l : List Row) (n : Int) (w : World) (h : Sl tRow w (fun _ => True) v l) (_hn : i64ok n) :
    Calls Try.prog 3 #[v, .int .i64 n] w (Ret w fun r _ => r = .bool true) := by
  go_enter Try.func3, Try.ntmps3
  go_wp2_with fail
  refine (chunkCut v l n _ w h).mono ?_; rintro e w1 ⟨_, rfl, ⟨x1, rfl, h1⟩, b1⟩
  go_wp2_with fail
  refine (refCutOf v l n _ w1 (h.call b1)).mono ?_; rintro e w2 ⟨_, rfl, ⟨x2, rfl, h2⟩, b2⟩
  go_wp2_with fail
  refine (chunkBegun w2).mono ?_; rintro e w3 ⟨_, rfl, rfl, b3⟩
  have s1 := b1.size
  have s2 := b2.size
  go_wp2_with fail
  refine (refSameLevel x1 x2 _ _ _ _ w3 (h1.call (b2.trans (b3.mono (by omega)))) (h2.call b3)).mono ?_; rintro e w4 ⟨rfl, d4⟩
  go_wp2
  go_ret
  exact ⟨_, rfl, rfl, ((b1.trans (b2.mono (by omega))).trans (b3.mono (by omega))).trans (d4.below.mono (by have := b3.size; omega))⟩

/-- A struct's two cells, and what lay below, over a call. -/
theorem s3_call {W wx w3 : World} {k : Nat} {a b : Value} (h0 : wx.cell? ⟨k, 0, none⟩ = some a) (h1 : wx.cell? ⟨k, 1, none⟩ = some b) (h2 : Below W.heap.size W wx) (hb : Below wx.heap.size wx w3) :
    w3.cell? ⟨k, 0, none⟩ = some a ∧ w3.cell? ⟨k, 1, none⟩ = some b ∧ Below W.heap.size W w3 :=
  ⟨(hb.cell (p := ⟨k, 0, none⟩) (World.block_lt_of_cell? _ _ h0)).trans h0, (hb.cell (p := ⟨k, 1, none⟩) (World.block_lt_of_cell? _ _ h1)).trans h1, h2.trans (hb.mono h2.size)⟩

set_option maxRecDepth 100000 in
set_option maxHeartbeats 1000000 in
theorem lawChunkSums (v : Value) (l : List Row) (r : Row) (n : Int) (w : World) (h : Sl tRow w (fun _ => True) v l) (_hn : i64ok n) :
    Calls Try.prog 4 #[v, .agg #[.int .i64 r.1, .int .i64 r.2], .int .i64 n] w (Ret w fun r _ => r = .bool true) := by
  have hB0 := (Below.refl w.heap.size w).alloc (Nat.le_refl _) (.cells #[.int .i64 r.1, .int .i64 r.2] 31)
  go_enter Try.func4, Try.ntmps4
  go_wp2_with fail
  refine (chunkSum v l _ _ (h.call hB0)).mono ?_; rintro e w1 ⟨_, rfl, rfl, b1⟩
  have b01 := hB0.trans (b1.mono (by simp))
  go_wp2_with fail
  refine (refSumOf v l _ w1 (h.call b01)).mono ?_; rintro e w2 ⟨rfl, d2⟩
  have b02 := b01.trans (d2.below.mono b01.size)
  have hc0 : w2.cell? ⟨w.heap.size, 0, none⟩ = some (.int .i64 r.1) := by
    have := (d2.below.cell (p := ⟨w.heap.size, 0, none⟩) (by have := b1.size; simp at this ⊢; omega)).trans (b1.cell (p := ⟨w.heap.size, 0, none⟩) (by simp))
    rw [this, World.cell?_alloc_new]; rfl
  have hc1 : w2.cell? ⟨w.heap.size, 1, none⟩ = some (.int .i64 r.2) := by
    have := (d2.below.cell (p := ⟨w.heap.size, 1, none⟩) (by have := b1.size; simp at this ⊢; omega)).trans (b1.cell (p := ⟨w.heap.size, 1, none⟩) (by simp))
    rw [this, World.cell?_alloc_new]; rfl
  have hsz : w.heap.size < w2.heap.size := World.block_lt_of_cell? _ _ hc0
  clear hB0 b1 b01 d2
  go_wp2_with fail
  go_region_held3 (fun w' => w'.cell? ⟨w.heap.size, 0, none⟩ = some (.int .i64 r.1) ∧ w'.cell? ⟨w.heap.size, 1, none⟩ = some (.int .i64 r.2) ∧ Below w.heap.size w w') (first | (exact ⟨by assumption, by assumption, by assumption⟩) | (exact ⟨hc0, hc1, b02.drew⟩))
    (first
      | (go_at_call 17; refine (chunkBegun _).mono ?_; rintro e w3 ⟨_, rfl, rfl, b3⟩; obtain ⟨x0, x1, x2⟩ := s3_call (W := w) (wx := w2.drew) (k := w.heap.size) hc0 hc1 b02.drew b3)
      | (go_at_call 21; refine (chunkEnds r n _).mono ?_; rintro e w4 ⟨_, rfl, rfl, b4⟩; obtain ⟨y0, y1, y2⟩ := s3_call (W := w) (k := w.heap.size) (by assumption) (by assumption) (by assumption) b4)
      | (go_at_call 22; refine (refEndsOf r n _).mono ?_; rintro e w5 ⟨_, rfl, rfl, b5⟩; obtain ⟨z0, z1, z2⟩ := s3_call (W := w) (k := w.heap.size) (by assumption) (by assumption) (by assumption) b5))
  have hS : w5.cell? ⟨w.heap.size, 0, none⟩ = some (.int .i64 r.1) ∧ w5.cell? ⟨w.heap.size, 1, none⟩ = some (.int .i64 r.2) ∧ Below w.heap.size w w5 := by assumption
  go_wp2
  go_ret
  exact ⟨_, rfl, rfl, hS.2.2⟩

end Go.Pch
