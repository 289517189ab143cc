/- The walks of what the document says of chunks: comparing levels, cutting. The walks: Clone; the first chunk; the document's CutOf and SumOf; chunk.Sum. -/
import Derived.Test.YtdclpbdmdpakkaaWa15
import Derived.Test.YtdclpbdmdpakkaaWa3
import Derived.Deep.Cut
import Derived.Deep.CutRange
section
namespace Go.Pch
open Go.RowKit Go.Proofs

theorem aLev : At Try.prog tRow.slice 131 41 := At.mk' Try.underlying131 (z := .slice none 0 0) (size := 1) (bytes := 24) (by kernel_rfl) rfl rfl (by decide)

theorem refSameRows_of {c : Bool} (v u : Value) (l m : List Row) (S S' : Blk) (w : World) (h : Sl tRow w S v l) (g : Sl tRow w S' u m) (hc : decide (l = m) = c) :
    Calls Try.prog 19 #[v, u] w (Quiet w (.bool c)) := hc ▸ refSameRows v u l m S S' w h g



end Go.Pch
end

section
namespace Go.Pch
open Go.RowKit Go.Proofs

set_option maxHeartbeats 400000 in
theorem cloneRow (v : Value) (l : List Row) (S : Blk) (w : World) (h : Sl tRow w S v l) (hl : l.length ≤ 1000000) :
    Calls Try.prog 63 #[v] w (Ret w fun r w' => Sl tRow w' (fun k => w.heap.size ≤ k) r l) := by
  obtain ⟨ao, cap, rfl, hcap, hmax, hnil⟩ := h.shape
  cases ao with
  | none =>
    have h0 := hnil rfl
    obtain rfl : l = [] := List.eq_nil_of_length_eq_zero (by omega)
    subst h0
    have hq := fun W => Lib.run_eql_slice_nil (P := Try.prog) W 41 88 none 0 0 0 0 Try.underlying41
    go_enter Try.func63, Try.ntmps63
    go_wp2
    go_ret
    exact ⟨_, rfl, Sl.nil _ _ _, Below.refl _ _⟩
  | some ad =>
    have hq := fun W => Lib.run_eql_slice_nil (P := Try.prog) W 41 88 (some ad) l.length cap 0 0 Try.underlying41
    have hs := fun W (hW : Below w.heap.size w W) => Src.row (D' := fun _ => False) (h.call hW).src
    go_enter Try.func63, Try.ntmps63
    go_wp2_with (at_builtin; refine wpList_grow rfl (.tmp 5) (.tmp 6) rfl aRow rfl (Own.made (B := w.heap.size) (C := fun _ => False) _ (Nat.le_refl _)) rfl rfl (hs _ ((Below.refl _ _).alloc (Nat.le_refl _) _)) (by simp) (fun _ h => h.elim) (by simp; omega) (by simp) ?_)
    intro v1 w1 hown hgrow
    go_wp2
    go_ret
    exact ⟨_, rfl, hown.sl (fun _ h => h.elim) (fun _ h => h), ((Below.refl _ _).alloc (Nat.le_refl _) _).grown hgrow (by simp) (by simp [Value.ownBlock])⟩

/-- B1: Cut's answer. -/
def cutL (l : List Row) (n : Int) : List (List Row) × Int := if rowsErr l = 0 then (if levB n then (chunks n l, 0) else ([], 3)) else ([], rowsErr l)
/-- B2: Sum's answer. -/
def sumOfL (l : List Row) : Int × Int := if rowsErr l = 0 then (sumL l, 0) else (0, rowsErr l)




end Go.Pch
end
