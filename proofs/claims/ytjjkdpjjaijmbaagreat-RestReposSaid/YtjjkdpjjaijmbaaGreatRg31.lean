/- The walks of the closures of wire.Read that read two things, one behind the other (written by wip/gen_clo.py). -/
import Derived.Test.YtjjkdpjjaijmbaaGreatRg10
import Derived.RegionDies
import Derived.Deep.RegionHeld3
section
namespace Go.Pch
open Go.RowKit Go.Proofs
set_option maxRecDepth 100000

/-- A glass, and the variable that points to it. -/
structure GVar (w : World) (gv gb : Nat) (s : Bytes) : Prop where
  glass : GlassAt w gb s
  ptr : w.cell? ⟨gv, 0, none⟩ = some (.pointer (some ⟨gb, 0, none⟩))
  ne : gv ≠ gb
theorem GVar.next {w w' : World} {gv gb : Nat} {s t : Bytes} (h : GVar w gv gb s) (on : GOn gb w w') (hg : GlassAt w' gb t) : GVar w' gv gb t :=
  ⟨hg, (on.cell (World.block_lt_of_cell? w _ h.ptr) h.ne).trans h.ptr, h.ne⟩
/-- A row; a head. -/
def VRow (r : Row) (v : Value) (_ : World) : Prop := v = .agg #[.int .i64 r.1, .int .i64 r.2]
def VHead (h : Head) (v : Value) (_ : World) : Prop := v = .agg #[.string h.1, .int .i64 h.2]
theorem Step.late {X : Blk} {w w' : World} (h : Step X w w') {p : Addr} (u : Value) (hp : w.heap.size ≤ p.block) : Step X w (w'.setCell p u) :=
  ⟨h.os, h.tape, h.output, by simpa [World.setCell] using h.size, fun k hk hn => (Below.heap_setCell _ _ _ _ (by omega)).trans (h.block k hk hn)⟩
theorem twoCells {w2 : World} {g gv gb : Nat} {a b : Value} {t : TypeId} {u : Bytes} (hr : w2.heap[g]? = some (.cells #[a, b] t)) (hg : gv < g) (hb : g ≠ gb) (g2 : GVar w2 gv gb u) :
    w2.cell? ⟨g, 0, none⟩ = some a ∧ w2.cell? ⟨g, 1, none⟩ = some b ∧ (∀ i, w2.frozen? ⟨g, i, none⟩ = false) ∧ (∀ x y, ((w2.setCell ⟨g, 0, none⟩ x).setCell ⟨g, 1, none⟩ y).cell? ⟨gv, 0, none⟩ = some (.pointer (some ⟨gb, 0, none⟩))) ∧
      (∀ x y, ((w2.setCell ⟨g, 0, none⟩ x).setCell ⟨g, 1, none⟩ y).heap[g]? = some (.cells #[x, y] t)) ∧ ∀ x y, GlassAt ((w2.setCell ⟨g, 0, none⟩ x).setCell ⟨g, 1, none⟩ y) gb u := by
  refine ⟨by rw [World.cell?, hr]; rfl, by rw [World.cell?, hr]; rfl, fun i => frozen_of_row w2 g i _ _ hr, fun x y => ?_, fun x y => ?_, fun x y => ?_⟩
  · refine (World.cell?_of_block (w := w2) ?_).trans g2.ptr
    exact (heap_setCell_other _ _ _ _ (by simp; omega)).trans (heap_setCell_other _ _ _ _ (by simp; omega))
  · exact heap_setCell_same _ g 1 _ _ y (heap_setCell_same w2 g 0 _ _ x hr)
  · exact (heap_setCell_other _ _ _ _ (by simp; omega)).trans ((heap_setCell_other _ _ _ _ (by simp; omega)).trans g2.glass)



end Go.Pch
end
