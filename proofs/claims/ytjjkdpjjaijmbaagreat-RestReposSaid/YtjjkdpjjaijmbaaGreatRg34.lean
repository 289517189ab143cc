/- The walk of log.read's closure for a change, the ways that throw (written by wip/gen_lgr.py Q). -/
import Derived.Test.YtjjkdpjjaijmbaaGreatRg33
import Derived.Test.YtjjkdpjjaijmbaaGreatRg13
import Derived.RegionDies
import Derived.Deep.RegionHeld3
section
namespace Go.Pch
open Go.RowKit Go.Proofs
set_option maxRecDepth 100000

/-- A change, as a slice's element. -/
def VElChg (_ : World) (a : Change) (v : Value) (_ : World) : Prop := v = .agg #[.int .i64 a.1, .int .i64 a.2.1, .int .i64 a.2.2] ∧ i64ok a.1 ∧ i64ok a.2.1 ∧ i64ok a.2.2
theorem threeCells {w2 : World} {g gv gb : Nat} {a b c : Value} {t : TypeId} {u : Bytes} (hr : w2.heap[g]? = some (.cells #[a, b, c] t)) (hg : gv < g) (hb : g ≠ gb) (g2 : GVar w2 gv gb u) :
    w2.cell? ⟨g, 0, none⟩ = some a ∧ w2.cell? ⟨g, 1, none⟩ = some b ∧ w2.cell? ⟨g, 2, none⟩ = some c ∧ (∀ i, w2.frozen? ⟨g, i, none⟩ = false) ∧ (∀ x y z, (((w2.setCell ⟨g, 0, none⟩ x).setCell ⟨g, 1, none⟩ y).setCell ⟨g, 2, none⟩ z).cell? ⟨gv, 0, none⟩ = some (.pointer (some ⟨gb, 0, none⟩))) ∧
      (∀ x y z, (((w2.setCell ⟨g, 0, none⟩ x).setCell ⟨g, 1, none⟩ y).setCell ⟨g, 2, none⟩ z).heap[g]? = some (.cells #[x, y, z] t)) ∧ ∀ x y z, GlassAt (((w2.setCell ⟨g, 0, none⟩ x).setCell ⟨g, 1, none⟩ y).setCell ⟨g, 2, none⟩ z) gb u := by
  refine ⟨by rw [World.cell?, hr]; rfl, by rw [World.cell?, hr]; rfl, by rw [World.cell?, hr]; rfl, fun i => frozen_of_row w2 g i _ _ hr, fun x y z => ?_, fun x y z => ?_, fun x y z => ?_⟩
  · refine (World.cell?_of_block (w := w2) ?_).trans g2.ptr
    exact (heap_setCell_other _ _ _ _ (by simp; omega)).trans ((heap_setCell_other _ _ _ _ (by simp; omega)).trans (heap_setCell_other _ _ _ _ (by simp; omega)))
  · exact heap_setCell_same _ g 2 _ _ z (heap_setCell_same _ g 1 _ _ y (heap_setCell_same w2 g 0 _ _ x hr))
  · exact (heap_setCell_other _ _ _ _ (by simp; omega)).trans ((heap_setCell_other _ _ _ _ (by simp; omega)).trans ((heap_setCell_other _ _ _ _ (by simp; omega)).trans g2.glass))
theorem chgG_n1 {s : Bytes} (h : num1 s = none) : chgG s = none := by rw [chgG, h]; rfl
theorem chgG_n2 {s t : Bytes} {k : Int} (h : num1 s = some (k, t)) (h2 : num2 t = none) : chgG s = none := by rw [chgG, h]; simp [h2]
theorem chgG_n3 {s t u : Bytes} {k y : Int} (h : num1 s = some (k, t)) (h2 : num2 t = some (y, u)) (h3 : num2 u = none) : chgG s = none := by rw [chgG, h]; simp [h2, h3]
theorem chgG_ok {s t u r : Bytes} {k y z : Int} (h : num1 s = some (k, t)) (h2 : num2 t = some (y, u)) (h3 : num2 u = some (z, r)) : chgG s = some ((k, y - 1, z - 1), r) := by rw [chgG, h]; simp [h2, h3]

set_option maxHeartbeats 4000000 in
theorem readChgNo (gv gb : Nat) (W0 : World) (s : Bytes) (h : GVar W0 gv gb s) (hno : chgG s = none) : Calls Tryz.prog 69 #[.pointer (some ⟨gv, 0, none⟩)] W0 (Reads gb W0 (VElChg W0) (chgG s)) := by
  obtain ⟨w, rfl⟩ : ∃ w, w = W0 := ⟨_, rfl⟩
  have HNO := keepBack hno
  clear hno
  have B0 : Below w.heap.size w (w.alloc (.cells #[.int .i64 0, .int .i64 0, .int .i64 0] 59)).drew := ((Below.refl _ _).alloc (Nat.le_refl _) _).drew
  have h0 := h.next (GOn.of B0) (h.glass.call B0)
  have q := h.ptr
  have hgl := World.block_lt_of_cell? w _ h.ptr
  have q0 : (w.alloc (.cells #[.int .i64 0, .int .i64 0, .int .i64 0] 59)).cell? ⟨gv, 0, none⟩ = some (.pointer (some ⟨gb, 0, none⟩)) := h0.ptr
  have hrow : (w.alloc (.cells #[.int .i64 0, .int .i64 0, .int .i64 0] 59)).drew.heap[w.heap.size]? = some (.cells #[.int .i64 0, .int .i64 0, .int .i64 0] 59) := heap_alloc_new w _
  have hsz : w.heap.size < (w.alloc (.cells #[.int .i64 0, .int .i64 0, .int .i64 0] 59)).drew.heap.size := by simp [World.drew]
  have hng : w.heap.size ≠ gb := by have := h.glass.lt; omega
  cases h1 : num1 s with
  | none =>
    have HT : Hid (chgG s = none) := chgG_n1 h1
    go_enter Tryz.func69, Tryz.ntmps69
    go_wp2_with fail
    refine wp_region_any (by kernel_rfl) ?_
    change wpAny _ _ _ _ _ _ _ (World.drew _)
    refine wpAny_ready (rs := [0, 2, 5]) (by kernel_rfl) (by simp) ?_
    refine AllReady.cons rfl (fun K hK => ?_) ?_
    · go_simp
      refine hK _ _ ?_
      clear hK K
      refine wpAny_ready (rs := [1, 2, 5]) (by kernel_rfl) (by simp) ?_
      refine AllReady.cons rfl (fun K hK => ?_) ?_
      · go_simp
        refine (numOne gb s _ h0.glass).mono ?_; intro e w1 hT; obtain ⟨rfl, on1⟩ := hT.no h1; exact ⟨rfl, Reads.mkNo HT.out rfl ((GOn.of B0).on on1)⟩
      refine AllReady.cons rfl (fun K hK => ?_) ?_
      · go_simp
        refine hK _ _ ?_
        clear hK K
        refine wpAny_ready (rs := [1, 5]) (by kernel_rfl) (by simp) ?_
        refine AllReady.cons rfl (fun K hK => ?_) ?_
        · go_simp
          refine (numOne gb s _ h0.glass).mono ?_; intro e w1 hT; obtain ⟨rfl, on1⟩ := hT.no h1; exact ⟨rfl, Reads.mkNo HT.out rfl ((GOn.of B0).on on1)⟩
        refine AllReady.cons rfl (fun K hK => ?_) ?_
        · go_simp
          refine hK _ _ ?_
          clear hK K
          refine wpAny_ready (rs := [1]) (by kernel_rfl) (by simp) ?_
          refine AllReady.cons rfl (fun K hK => ?_) ?_
          · go_simp
            refine (numOne gb s _ h0.glass).mono ?_; intro e w1 hT; obtain ⟨rfl, on1⟩ := hT.no h1; exact ⟨rfl, Reads.mkNo HT.out rfl ((GOn.of B0).on on1)⟩
          exact AllReady.nil
        exact AllReady.nil
      refine AllReady.cons rfl (fun K hK => ?_) ?_
      · go_simp
        refine hK _ _ ?_
        clear hK K
        refine wpAny_ready (rs := [1, 2]) (by kernel_rfl) (by simp) ?_
        refine AllReady.cons rfl (fun K hK => ?_) ?_
        · go_simp
          refine (numOne gb s _ h0.glass).mono ?_; intro e w1 hT; obtain ⟨rfl, on1⟩ := hT.no h1; exact ⟨rfl, Reads.mkNo HT.out rfl ((GOn.of B0).on on1)⟩
        refine AllReady.cons rfl (fun K hK => ?_) ?_
        · go_simp
          refine hK _ _ ?_
          clear hK K
          refine wpAny_ready (rs := [1]) (by kernel_rfl) (by simp) ?_
          refine AllReady.cons rfl (fun K hK => ?_) ?_
          · go_simp
            refine (numOne gb s _ h0.glass).mono ?_; intro e w1 hT; obtain ⟨rfl, on1⟩ := hT.no h1; exact ⟨rfl, Reads.mkNo HT.out rfl ((GOn.of B0).on on1)⟩
          exact AllReady.nil
        exact AllReady.nil
      exact AllReady.nil
    refine AllReady.cons rfl (fun K hK => ?_) ?_
    · go_simp
      refine hK _ _ ?_
      clear hK K
      refine wpAny_ready (rs := [0, 5]) (by kernel_rfl) (by simp) ?_
      refine AllReady.cons rfl (fun K hK => ?_) ?_
      · go_simp
        refine hK _ _ ?_
        clear hK K
        refine wpAny_ready (rs := [1, 5]) (by kernel_rfl) (by simp) ?_
        refine AllReady.cons rfl (fun K hK => ?_) ?_
        · go_simp
          refine (numOne gb s _ h0.glass).mono ?_; intro e w1 hT; obtain ⟨rfl, on1⟩ := hT.no h1; exact ⟨rfl, Reads.mkNo HT.out rfl ((GOn.of B0).on on1)⟩
        refine AllReady.cons rfl (fun K hK => ?_) ?_
        · go_simp
          refine hK _ _ ?_
          clear hK K
          refine wpAny_ready (rs := [1]) (by kernel_rfl) (by simp) ?_
          refine AllReady.cons rfl (fun K hK => ?_) ?_
          · go_simp
            refine (numOne gb s _ h0.glass).mono ?_; intro e w1 hT; obtain ⟨rfl, on1⟩ := hT.no h1; exact ⟨rfl, Reads.mkNo HT.out rfl ((GOn.of B0).on on1)⟩
          exact AllReady.nil
        exact AllReady.nil
      refine AllReady.cons rfl (fun K hK => ?_) ?_
      · go_simp
        refine hK _ _ ?_
        clear hK K
        refine wpAny_ready (rs := [0]) (by kernel_rfl) (by simp) ?_
        refine AllReady.cons rfl (fun K hK => ?_) ?_
        · go_simp
          refine hK _ _ ?_
          clear hK K
          refine wpAny_ready (rs := [1]) (by kernel_rfl) (by simp) ?_
          refine AllReady.cons rfl (fun K hK => ?_) ?_
          · go_simp
            refine (numOne gb s _ h0.glass).mono ?_; intro e w1 hT; obtain ⟨rfl, on1⟩ := hT.no h1; exact ⟨rfl, Reads.mkNo HT.out rfl ((GOn.of B0).on on1)⟩
          exact AllReady.nil
        exact AllReady.nil
      exact AllReady.nil
    refine AllReady.cons rfl (fun K hK => ?_) ?_
    · go_simp
      refine hK _ _ ?_
      clear hK K
      refine wpAny_ready (rs := [0, 2]) (by kernel_rfl) (by simp) ?_
      refine AllReady.cons rfl (fun K hK => ?_) ?_
      · go_simp
        refine hK _ _ ?_
        clear hK K
        refine wpAny_ready (rs := [1, 2]) (by kernel_rfl) (by simp) ?_
        refine AllReady.cons rfl (fun K hK => ?_) ?_
        · go_simp
          refine (numOne gb s _ h0.glass).mono ?_; intro e w1 hT; obtain ⟨rfl, on1⟩ := hT.no h1; exact ⟨rfl, Reads.mkNo HT.out rfl ((GOn.of B0).on on1)⟩
        refine AllReady.cons rfl (fun K hK => ?_) ?_
        · go_simp
          refine hK _ _ ?_
          clear hK K
          refine wpAny_ready (rs := [1]) (by kernel_rfl) (by simp) ?_
          refine AllReady.cons rfl (fun K hK => ?_) ?_
          · go_simp
            refine (numOne gb s _ h0.glass).mono ?_; intro e w1 hT; obtain ⟨rfl, on1⟩ := hT.no h1; exact ⟨rfl, Reads.mkNo HT.out rfl ((GOn.of B0).on on1)⟩
          exact AllReady.nil
        exact AllReady.nil
      refine AllReady.cons rfl (fun K hK => ?_) ?_
      · go_simp
        refine hK _ _ ?_
        clear hK K
        refine wpAny_ready (rs := [0]) (by kernel_rfl) (by simp) ?_
        refine AllReady.cons rfl (fun K hK => ?_) ?_
        · go_simp
          refine hK _ _ ?_
          clear hK K
          refine wpAny_ready (rs := [1]) (by kernel_rfl) (by simp) ?_
          refine AllReady.cons rfl (fun K hK => ?_) ?_
          · go_simp
            refine (numOne gb s _ h0.glass).mono ?_; intro e w1 hT; obtain ⟨rfl, on1⟩ := hT.no h1; exact ⟨rfl, Reads.mkNo HT.out rfl ((GOn.of B0).on on1)⟩
          exact AllReady.nil
        exact AllReady.nil
      exact AllReady.nil
    exact AllReady.nil
  | some x =>
    obtain ⟨k, t⟩ := x
    cases h2 : num2 t with
    | none =>
      have HT : Hid (chgG s = none) := chgG_n2 h1 h2
      go_enter Tryz.func69, Tryz.ntmps69
      go_wp2_with fail
      refine wp_region_any (by kernel_rfl) ?_
      change wpAny _ _ _ _ _ _ _ (World.drew _)
      refine wpAny_ready (rs := [0, 2, 5]) (by kernel_rfl) (by simp) ?_
      refine AllReady.cons rfl (fun K hK => ?_) ?_
      · go_simp
        refine hK _ _ ?_
        clear hK K
        refine wpAny_ready (rs := [1, 2, 5]) (by kernel_rfl) (by simp) ?_
        refine AllReady.cons rfl (fun K hK => ?_) ?_
        · go_simp
          refine (numOne gb s _ h0.glass).mono ?_; intro e w1 hT; obtain ⟨_, rfl, rfl, g1, on1⟩ := hT.ok h1; clear hT; replace g1 := h0.next on1 g1; have q1 := g1.ptr
          refine hK _ _ ?_
          clear hK K
          refine wpAny_ready (rs := [2, 5]) (by kernel_rfl) (by simp) ?_
          refine AllReady.cons rfl (fun K hK => ?_) ?_
          · go_simp
            refine hK _ _ ?_
            clear hK K
            refine wpAny_ready (rs := [3, 5]) (by kernel_rfl) (by simp) ?_
            refine AllReady.cons rfl (fun K hK => ?_) ?_
            · go_simp
              refine (numTwo gb t _ g1.glass).mono ?_; intro e w2 hT; obtain ⟨rfl, on2⟩ := hT.no h2; exact ⟨rfl, Reads.mkNo HT.out rfl ((GOn.of B0).on (on1.on on2))⟩
            refine AllReady.cons rfl (fun K hK => ?_) ?_
            · go_simp
              refine hK _ _ ?_
              clear hK K
              refine wpAny_ready (rs := [3]) (by kernel_rfl) (by simp) ?_
              refine AllReady.cons rfl (fun K hK => ?_) ?_
              · go_simp
                refine (numTwo gb t _ g1.glass).mono ?_; intro e w2 hT; obtain ⟨rfl, on2⟩ := hT.no h2; exact ⟨rfl, Reads.mkNo HT.out rfl ((GOn.of B0).on (on1.on on2))⟩
              exact AllReady.nil
            exact AllReady.nil
          refine AllReady.cons rfl (fun K hK => ?_) ?_
          · go_simp
            refine hK _ _ ?_
            clear hK K
            refine wpAny_ready (rs := [2]) (by kernel_rfl) (by simp) ?_
            refine AllReady.cons rfl (fun K hK => ?_) ?_
            · go_simp
              refine hK _ _ ?_
              clear hK K
              refine wpAny_ready (rs := [3]) (by kernel_rfl) (by simp) ?_
              refine AllReady.cons rfl (fun K hK => ?_) ?_
              · go_simp
                refine (numTwo gb t _ g1.glass).mono ?_; intro e w2 hT; obtain ⟨rfl, on2⟩ := hT.no h2; exact ⟨rfl, Reads.mkNo HT.out rfl ((GOn.of B0).on (on1.on on2))⟩
              exact AllReady.nil
            exact AllReady.nil
          exact AllReady.nil
        refine AllReady.cons rfl (fun K hK => ?_) ?_
        · go_simp
          refine hK _ _ ?_
          clear hK K
          refine wpAny_ready (rs := [1, 5]) (by kernel_rfl) (by simp) ?_
          refine AllReady.cons rfl (fun K hK => ?_) ?_
          · go_simp
            refine (numOne gb s _ h0.glass).mono ?_; intro e w1 hT; obtain ⟨_, rfl, rfl, g1, on1⟩ := hT.ok h1; clear hT; replace g1 := h0.next on1 g1; have q1 := g1.ptr
            refine hK _ _ ?_
            clear hK K
            refine wpAny_ready (rs := [3, 5]) (by kernel_rfl) (by simp) ?_
            refine AllReady.cons rfl (fun K hK => ?_) ?_
            · go_simp
              refine (numTwo gb t _ g1.glass).mono ?_; intro e w2 hT; obtain ⟨rfl, on2⟩ := hT.no h2; exact ⟨rfl, Reads.mkNo HT.out rfl ((GOn.of B0).on (on1.on on2))⟩
            refine AllReady.cons rfl (fun K hK => ?_) ?_
            · go_simp
              refine hK _ _ ?_
              clear hK K
              refine wpAny_ready (rs := [3]) (by kernel_rfl) (by simp) ?_
              refine AllReady.cons rfl (fun K hK => ?_) ?_
              · go_simp
                refine (numTwo gb t _ g1.glass).mono ?_; intro e w2 hT; obtain ⟨rfl, on2⟩ := hT.no h2; exact ⟨rfl, Reads.mkNo HT.out rfl ((GOn.of B0).on (on1.on on2))⟩
              exact AllReady.nil
            exact AllReady.nil
          refine AllReady.cons rfl (fun K hK => ?_) ?_
          · go_simp
            refine hK _ _ ?_
            clear hK K
            refine wpAny_ready (rs := [1]) (by kernel_rfl) (by simp) ?_
            refine AllReady.cons rfl (fun K hK => ?_) ?_
            · go_simp
              refine (numOne gb s _ h0.glass).mono ?_; intro e w1 hT; obtain ⟨_, rfl, rfl, g1, on1⟩ := hT.ok h1; clear hT; replace g1 := h0.next on1 g1; have q1 := g1.ptr
              refine hK _ _ ?_
              clear hK K
              refine wpAny_ready (rs := [3]) (by kernel_rfl) (by simp) ?_
              refine AllReady.cons rfl (fun K hK => ?_) ?_
              · go_simp
                refine (numTwo gb t _ g1.glass).mono ?_; intro e w2 hT; obtain ⟨rfl, on2⟩ := hT.no h2; exact ⟨rfl, Reads.mkNo HT.out rfl ((GOn.of B0).on (on1.on on2))⟩
              exact AllReady.nil
            exact AllReady.nil
          exact AllReady.nil
        refine AllReady.cons rfl (fun K hK => ?_) ?_
        · go_simp
          refine hK _ _ ?_
          clear hK K
          refine wpAny_ready (rs := [1, 2]) (by kernel_rfl) (by simp) ?_
          refine AllReady.cons rfl (fun K hK => ?_) ?_
          · go_simp
            refine (numOne gb s _ h0.glass).mono ?_; intro e w1 hT; obtain ⟨_, rfl, rfl, g1, on1⟩ := hT.ok h1; clear hT; replace g1 := h0.next on1 g1; have q1 := g1.ptr
            refine hK _ _ ?_
            clear hK K
            refine wpAny_ready (rs := [2]) (by kernel_rfl) (by simp) ?_
            refine AllReady.cons rfl (fun K hK => ?_) ?_
            · go_simp
              refine hK _ _ ?_
              clear hK K
              refine wpAny_ready (rs := [3]) (by kernel_rfl) (by simp) ?_
              refine AllReady.cons rfl (fun K hK => ?_) ?_
              · go_simp
                refine (numTwo gb t _ g1.glass).mono ?_; intro e w2 hT; obtain ⟨rfl, on2⟩ := hT.no h2; exact ⟨rfl, Reads.mkNo HT.out rfl ((GOn.of B0).on (on1.on on2))⟩
              exact AllReady.nil
            exact AllReady.nil
          refine AllReady.cons rfl (fun K hK => ?_) ?_
          · go_simp
            refine hK _ _ ?_
            clear hK K
            refine wpAny_ready (rs := [1]) (by kernel_rfl) (by simp) ?_
            refine AllReady.cons rfl (fun K hK => ?_) ?_
            · go_simp
              refine (numOne gb s _ h0.glass).mono ?_; intro e w1 hT; obtain ⟨_, rfl, rfl, g1, on1⟩ := hT.ok h1; clear hT; replace g1 := h0.next on1 g1; have q1 := g1.ptr
              refine hK _ _ ?_
              clear hK K
              refine wpAny_ready (rs := [3]) (by kernel_rfl) (by simp) ?_
              refine AllReady.cons rfl (fun K hK => ?_) ?_
              · go_simp
                refine (numTwo gb t _ g1.glass).mono ?_; intro e w2 hT; obtain ⟨rfl, on2⟩ := hT.no h2; exact ⟨rfl, Reads.mkNo HT.out rfl ((GOn.of B0).on (on1.on on2))⟩
              exact AllReady.nil
            exact AllReady.nil
          exact AllReady.nil
        exact AllReady.nil
      refine AllReady.cons rfl (fun K hK => ?_) ?_
      · go_simp
        refine hK _ _ ?_
        clear hK K
        refine wpAny_ready (rs := [0, 5]) (by kernel_rfl) (by simp) ?_
        refine AllReady.cons rfl (fun K hK => ?_) ?_
        · go_simp
          refine hK _ _ ?_
          clear hK K
          refine wpAny_ready (rs := [1, 5]) (by kernel_rfl) (by simp) ?_
          refine AllReady.cons rfl (fun K hK => ?_) ?_
          · go_simp
            refine (numOne gb s _ h0.glass).mono ?_; intro e w1 hT; obtain ⟨_, rfl, rfl, g1, on1⟩ := hT.ok h1; clear hT; replace g1 := h0.next on1 g1; have q1 := g1.ptr
            refine hK _ _ ?_
            clear hK K
            refine wpAny_ready (rs := [3, 5]) (by kernel_rfl) (by simp) ?_
            refine AllReady.cons rfl (fun K hK => ?_) ?_
            · go_simp
              refine (numTwo gb t _ g1.glass).mono ?_; intro e w2 hT; obtain ⟨rfl, on2⟩ := hT.no h2; exact ⟨rfl, Reads.mkNo HT.out rfl ((GOn.of B0).on (on1.on on2))⟩
            refine AllReady.cons rfl (fun K hK => ?_) ?_
            · go_simp
              refine hK _ _ ?_
              clear hK K
              refine wpAny_ready (rs := [3]) (by kernel_rfl) (by simp) ?_
              refine AllReady.cons rfl (fun K hK => ?_) ?_
              · go_simp
                refine (numTwo gb t _ g1.glass).mono ?_; intro e w2 hT; obtain ⟨rfl, on2⟩ := hT.no h2; exact ⟨rfl, Reads.mkNo HT.out rfl ((GOn.of B0).on (on1.on on2))⟩
              exact AllReady.nil
            exact AllReady.nil
          refine AllReady.cons rfl (fun K hK => ?_) ?_
          · go_simp
            refine hK _ _ ?_
            clear hK K
            refine wpAny_ready (rs := [1]) (by kernel_rfl) (by simp) ?_
            refine AllReady.cons rfl (fun K hK => ?_) ?_
            · go_simp
              refine (numOne gb s _ h0.glass).mono ?_; intro e w1 hT; obtain ⟨_, rfl, rfl, g1, on1⟩ := hT.ok h1; clear hT; replace g1 := h0.next on1 g1; have q1 := g1.ptr
              refine hK _ _ ?_
              clear hK K
              refine wpAny_ready (rs := [3]) (by kernel_rfl) (by simp) ?_
              refine AllReady.cons rfl (fun K hK => ?_) ?_
              · go_simp
                refine (numTwo gb t _ g1.glass).mono ?_; intro e w2 hT; obtain ⟨rfl, on2⟩ := hT.no h2; exact ⟨rfl, Reads.mkNo HT.out rfl ((GOn.of B0).on (on1.on on2))⟩
              exact AllReady.nil
            exact AllReady.nil
          exact AllReady.nil
        refine AllReady.cons rfl (fun K hK => ?_) ?_
        · go_simp
          refine hK _ _ ?_
          clear hK K
          refine wpAny_ready (rs := [0]) (by kernel_rfl) (by simp) ?_
          refine AllReady.cons rfl (fun K hK => ?_) ?_
          · go_simp
            refine hK _ _ ?_
            clear hK K
            refine wpAny_ready (rs := [1]) (by kernel_rfl) (by simp) ?_
            refine AllReady.cons rfl (fun K hK => ?_) ?_
            · go_simp
              refine (numOne gb s _ h0.glass).mono ?_; intro e w1 hT; obtain ⟨_, rfl, rfl, g1, on1⟩ := hT.ok h1; clear hT; replace g1 := h0.next on1 g1; have q1 := g1.ptr
              refine hK _ _ ?_
              clear hK K
              refine wpAny_ready (rs := [3]) (by kernel_rfl) (by simp) ?_
              refine AllReady.cons rfl (fun K hK => ?_) ?_
              · go_simp
                refine (numTwo gb t _ g1.glass).mono ?_; intro e w2 hT; obtain ⟨rfl, on2⟩ := hT.no h2; exact ⟨rfl, Reads.mkNo HT.out rfl ((GOn.of B0).on (on1.on on2))⟩
              exact AllReady.nil
            exact AllReady.nil
          exact AllReady.nil
        exact AllReady.nil
      refine AllReady.cons rfl (fun K hK => ?_) ?_
      · go_simp
        refine hK _ _ ?_
        clear hK K
        refine wpAny_ready (rs := [0, 2]) (by kernel_rfl) (by simp) ?_
        refine AllReady.cons rfl (fun K hK => ?_) ?_
        · go_simp
          refine hK _ _ ?_
          clear hK K
          refine wpAny_ready (rs := [1, 2]) (by kernel_rfl) (by simp) ?_
          refine AllReady.cons rfl (fun K hK => ?_) ?_
          · go_simp
            refine (numOne gb s _ h0.glass).mono ?_; intro e w1 hT; obtain ⟨_, rfl, rfl, g1, on1⟩ := hT.ok h1; clear hT; replace g1 := h0.next on1 g1; have q1 := g1.ptr
            refine hK _ _ ?_
            clear hK K
            refine wpAny_ready (rs := [2]) (by kernel_rfl) (by simp) ?_
            refine AllReady.cons rfl (fun K hK => ?_) ?_
            · go_simp
              refine hK _ _ ?_
              clear hK K
              refine wpAny_ready (rs := [3]) (by kernel_rfl) (by simp) ?_
              refine AllReady.cons rfl (fun K hK => ?_) ?_
              · go_simp
                refine (numTwo gb t _ g1.glass).mono ?_; intro e w2 hT; obtain ⟨rfl, on2⟩ := hT.no h2; exact ⟨rfl, Reads.mkNo HT.out rfl ((GOn.of B0).on (on1.on on2))⟩
              exact AllReady.nil
            exact AllReady.nil
          refine AllReady.cons rfl (fun K hK => ?_) ?_
          · go_simp
            refine hK _ _ ?_
            clear hK K
            refine wpAny_ready (rs := [1]) (by kernel_rfl) (by simp) ?_
            refine AllReady.cons rfl (fun K hK => ?_) ?_
            · go_simp
              refine (numOne gb s _ h0.glass).mono ?_; intro e w1 hT; obtain ⟨_, rfl, rfl, g1, on1⟩ := hT.ok h1; clear hT; replace g1 := h0.next on1 g1; have q1 := g1.ptr
              refine hK _ _ ?_
              clear hK K
              refine wpAny_ready (rs := [3]) (by kernel_rfl) (by simp) ?_
              refine AllReady.cons rfl (fun K hK => ?_) ?_
              · go_simp
                refine (numTwo gb t _ g1.glass).mono ?_; intro e w2 hT; obtain ⟨rfl, on2⟩ := hT.no h2; exact ⟨rfl, Reads.mkNo HT.out rfl ((GOn.of B0).on (on1.on on2))⟩
              exact AllReady.nil
            exact AllReady.nil
          exact AllReady.nil
        refine AllReady.cons rfl (fun K hK => ?_) ?_
        · go_simp
          refine hK _ _ ?_
          clear hK K
          refine wpAny_ready (rs := [0]) (by kernel_rfl) (by simp) ?_
          refine AllReady.cons rfl (fun K hK => ?_) ?_
          · go_simp
            refine hK _ _ ?_
            clear hK K
            refine wpAny_ready (rs := [1]) (by kernel_rfl) (by simp) ?_
            refine AllReady.cons rfl (fun K hK => ?_) ?_
            · go_simp
              refine (numOne gb s _ h0.glass).mono ?_; intro e w1 hT; obtain ⟨_, rfl, rfl, g1, on1⟩ := hT.ok h1; clear hT; replace g1 := h0.next on1 g1; have q1 := g1.ptr
              refine hK _ _ ?_
              clear hK K
              refine wpAny_ready (rs := [3]) (by kernel_rfl) (by simp) ?_
              refine AllReady.cons rfl (fun K hK => ?_) ?_
              · go_simp
                refine (numTwo gb t _ g1.glass).mono ?_; intro e w2 hT; obtain ⟨rfl, on2⟩ := hT.no h2; exact ⟨rfl, Reads.mkNo HT.out rfl ((GOn.of B0).on (on1.on on2))⟩
              exact AllReady.nil
            exact AllReady.nil
          exact AllReady.nil
        exact AllReady.nil
      exact AllReady.nil
    | some x =>
      obtain ⟨y, u⟩ := x
      cases h3 : num2 u with
      | none =>
        have HT : Hid (chgG s = none) := chgG_n3 h1 h2 h3
        go_enter Tryz.func69, Tryz.ntmps69
        go_wp2_with fail
        refine wp_region_any (by kernel_rfl) ?_
        change wpAny _ _ _ _ _ _ _ (World.drew _)
        refine wpAny_ready (rs := [0, 2, 5]) (by kernel_rfl) (by simp) ?_
        refine AllReady.cons rfl (fun K hK => ?_) ?_
        · go_simp
          refine hK _ _ ?_
          clear hK K
          refine wpAny_ready (rs := [1, 2, 5]) (by kernel_rfl) (by simp) ?_
          refine AllReady.cons rfl (fun K hK => ?_) ?_
          · go_simp
            refine (numOne gb s _ h0.glass).mono ?_; intro e w1 hT; obtain ⟨_, rfl, rfl, g1, on1⟩ := hT.ok h1; clear hT; replace g1 := h0.next on1 g1; have q1 := g1.ptr
            refine hK _ _ ?_
            clear hK K
            refine wpAny_ready (rs := [2, 5]) (by kernel_rfl) (by simp) ?_
            refine AllReady.cons rfl (fun K hK => ?_) ?_
            · go_simp
              refine hK _ _ ?_
              clear hK K
              refine wpAny_ready (rs := [3, 5]) (by kernel_rfl) (by simp) ?_
              refine AllReady.cons rfl (fun K hK => ?_) ?_
              · go_simp
                refine (numTwo gb t _ g1.glass).mono ?_; intro e w2 hT; obtain ⟨_, rfl, rfl, g2, on2⟩ := hT.ok h2; clear hT; replace g2 := g1.next on2 g2; have q2 := g2.ptr
                refine hK _ _ ?_
                clear hK K
                refine wpAny_ready (rs := [4, 5]) (by kernel_rfl) (by simp) ?_
                refine AllReady.cons rfl (fun K hK => ?_) ?_
                · go_simp
                  refine hK _ _ ?_
                  clear hK K
                  refine wpAny_ready (rs := [5]) (by kernel_rfl) (by simp) ?_
                  refine AllReady.cons rfl (fun K hK => ?_) ?_
                  · go_simp
                    refine hK _ _ ?_
                    clear hK K
                    refine wpAny_ready (rs := [6]) (by kernel_rfl) (by simp) ?_
                    refine AllReady.cons rfl (fun K hK => ?_) ?_
                    · go_simp
                      refine (numTwo gb u _ g2.glass).mono ?_; intro e w3 hT; obtain ⟨rfl, on3⟩ := hT.no h3; exact ⟨rfl, Reads.mkNo HT.out rfl ((GOn.of B0).on ((on1.on on2).on on3))⟩
                    exact AllReady.nil
                  exact AllReady.nil
                refine AllReady.cons rfl (fun K hK => ?_) ?_
                · go_simp
                  refine hK _ _ ?_
                  clear hK K
                  refine wpAny_ready (rs := [4, 6]) (by kernel_rfl) (by simp) ?_
                  refine AllReady.cons rfl (fun K hK => ?_) ?_
                  · go_simp
                    refine hK _ _ ?_
                    clear hK K
                    refine wpAny_ready (rs := [6]) (by kernel_rfl) (by simp) ?_
                    refine AllReady.cons rfl (fun K hK => ?_) ?_
                    · go_simp
                      refine (numTwo gb u _ g2.glass).mono ?_; intro e w3 hT; obtain ⟨rfl, on3⟩ := hT.no h3; exact ⟨rfl, Reads.mkNo HT.out rfl ((GOn.of B0).on ((on1.on on2).on on3))⟩
                    exact AllReady.nil
                  refine AllReady.cons rfl (fun K hK => ?_) ?_
                  · go_simp
                    refine (numTwo gb u _ g2.glass).mono ?_; intro e w3 hT; obtain ⟨rfl, on3⟩ := hT.no h3; exact ⟨rfl, Reads.mkNo HT.out rfl ((GOn.of B0).on ((on1.on on2).on on3))⟩
                  exact AllReady.nil
                exact AllReady.nil
              refine AllReady.cons rfl (fun K hK => ?_) ?_
              · go_simp
                refine hK _ _ ?_
                clear hK K
                refine wpAny_ready (rs := [3]) (by kernel_rfl) (by simp) ?_
                refine AllReady.cons rfl (fun K hK => ?_) ?_
                · go_simp
                  refine (numTwo gb t _ g1.glass).mono ?_; intro e w2 hT; obtain ⟨_, rfl, rfl, g2, on2⟩ := hT.ok h2; clear hT; replace g2 := g1.next on2 g2; have q2 := g2.ptr
                  refine hK _ _ ?_
                  clear hK K
                  refine wpAny_ready (rs := [4, 6]) (by kernel_rfl) (by simp) ?_
                  refine AllReady.cons rfl (fun K hK => ?_) ?_
                  · go_simp
                    refine hK _ _ ?_
                    clear hK K
                    refine wpAny_ready (rs := [6]) (by kernel_rfl) (by simp) ?_
                    refine AllReady.cons rfl (fun K hK => ?_) ?_
                    · go_simp
                      refine (numTwo gb u _ g2.glass).mono ?_; intro e w3 hT; obtain ⟨rfl, on3⟩ := hT.no h3; exact ⟨rfl, Reads.mkNo HT.out rfl ((GOn.of B0).on ((on1.on on2).on on3))⟩
                    exact AllReady.nil
                  refine AllReady.cons rfl (fun K hK => ?_) ?_
                  · go_simp
                    refine (numTwo gb u _ g2.glass).mono ?_; intro e w3 hT; obtain ⟨rfl, on3⟩ := hT.no h3; exact ⟨rfl, Reads.mkNo HT.out rfl ((GOn.of B0).on ((on1.on on2).on on3))⟩
                  exact AllReady.nil
                exact AllReady.nil
              exact AllReady.nil
            refine AllReady.cons rfl (fun K hK => ?_) ?_
            · go_simp
              refine hK _ _ ?_
              clear hK K
              refine wpAny_ready (rs := [2]) (by kernel_rfl) (by simp) ?_
              refine AllReady.cons rfl (fun K hK => ?_) ?_
              · go_simp
                refine hK _ _ ?_
                clear hK K
                refine wpAny_ready (rs := [3]) (by kernel_rfl) (by simp) ?_
                refine AllReady.cons rfl (fun K hK => ?_) ?_
                · go_simp
                  refine (numTwo gb t _ g1.glass).mono ?_; intro e w2 hT; obtain ⟨_, rfl, rfl, g2, on2⟩ := hT.ok h2; clear hT; replace g2 := g1.next on2 g2; have q2 := g2.ptr
                  refine hK _ _ ?_
                  clear hK K
                  refine wpAny_ready (rs := [4, 6]) (by kernel_rfl) (by simp) ?_
                  refine AllReady.cons rfl (fun K hK => ?_) ?_
                  · go_simp
                    refine hK _ _ ?_
                    clear hK K
                    refine wpAny_ready (rs := [6]) (by kernel_rfl) (by simp) ?_
                    refine AllReady.cons rfl (fun K hK => ?_) ?_
                    · go_simp
                      refine (numTwo gb u _ g2.glass).mono ?_; intro e w3 hT; obtain ⟨rfl, on3⟩ := hT.no h3; exact ⟨rfl, Reads.mkNo HT.out rfl ((GOn.of B0).on ((on1.on on2).on on3))⟩
                    exact AllReady.nil
                  refine AllReady.cons rfl (fun K hK => ?_) ?_
                  · go_simp
                    refine (numTwo gb u _ g2.glass).mono ?_; intro e w3 hT; obtain ⟨rfl, on3⟩ := hT.no h3; exact ⟨rfl, Reads.mkNo HT.out rfl ((GOn.of B0).on ((on1.on on2).on on3))⟩
                  exact AllReady.nil
                exact AllReady.nil
              exact AllReady.nil
            exact AllReady.nil
          refine AllReady.cons rfl (fun K hK => ?_) ?_
          · go_simp
            refine hK _ _ ?_
            clear hK K
            refine wpAny_ready (rs := [1, 5]) (by kernel_rfl) (by simp) ?_
            refine AllReady.cons rfl (fun K hK => ?_) ?_
            · go_simp
              refine (numOne gb s _ h0.glass).mono ?_; intro e w1 hT; obtain ⟨_, rfl, rfl, g1, on1⟩ := hT.ok h1; clear hT; replace g1 := h0.next on1 g1; have q1 := g1.ptr
              refine hK _ _ ?_
              clear hK K
              refine wpAny_ready (rs := [3, 5]) (by kernel_rfl) (by simp) ?_
              refine AllReady.cons rfl (fun K hK => ?_) ?_
              · go_simp
                refine (numTwo gb t _ g1.glass).mono ?_; intro e w2 hT; obtain ⟨_, rfl, rfl, g2, on2⟩ := hT.ok h2; clear hT; replace g2 := g1.next on2 g2; have q2 := g2.ptr
                refine hK _ _ ?_
                clear hK K
                refine wpAny_ready (rs := [4, 5]) (by kernel_rfl) (by simp) ?_
                refine AllReady.cons rfl (fun K hK => ?_) ?_
                · go_simp
                  refine hK _ _ ?_
                  clear hK K
                  refine wpAny_ready (rs := [5]) (by kernel_rfl) (by simp) ?_
                  refine AllReady.cons rfl (fun K hK => ?_) ?_
                  · go_simp
                    refine hK _ _ ?_
                    clear hK K
                    refine wpAny_ready (rs := [6]) (by kernel_rfl) (by simp) ?_
                    refine AllReady.cons rfl (fun K hK => ?_) ?_
                    · go_simp
                      refine (numTwo gb u _ g2.glass).mono ?_; intro e w3 hT; obtain ⟨rfl, on3⟩ := hT.no h3; exact ⟨rfl, Reads.mkNo HT.out rfl ((GOn.of B0).on ((on1.on on2).on on3))⟩
                    exact AllReady.nil
                  exact AllReady.nil
                refine AllReady.cons rfl (fun K hK => ?_) ?_
                · go_simp
                  refine hK _ _ ?_
                  clear hK K
                  refine wpAny_ready (rs := [4, 6]) (by kernel_rfl) (by simp) ?_
                  refine AllReady.cons rfl (fun K hK => ?_) ?_
                  · go_simp
                    refine hK _ _ ?_
                    clear hK K
                    refine wpAny_ready (rs := [6]) (by kernel_rfl) (by simp) ?_
                    refine AllReady.cons rfl (fun K hK => ?_) ?_
                    · go_simp
                      refine (numTwo gb u _ g2.glass).mono ?_; intro e w3 hT; obtain ⟨rfl, on3⟩ := hT.no h3; exact ⟨rfl, Reads.mkNo HT.out rfl ((GOn.of B0).on ((on1.on on2).on on3))⟩
                    exact AllReady.nil
                  refine AllReady.cons rfl (fun K hK => ?_) ?_
                  · go_simp
                    refine (numTwo gb u _ g2.glass).mono ?_; intro e w3 hT; obtain ⟨rfl, on3⟩ := hT.no h3; exact ⟨rfl, Reads.mkNo HT.out rfl ((GOn.of B0).on ((on1.on on2).on on3))⟩
                  exact AllReady.nil
                exact AllReady.nil
              refine AllReady.cons rfl (fun K hK => ?_) ?_
              · go_simp
                refine hK _ _ ?_
                clear hK K
                refine wpAny_ready (rs := [3]) (by kernel_rfl) (by simp) ?_
                refine AllReady.cons rfl (fun K hK => ?_) ?_
                · go_simp
                  refine (numTwo gb t _ g1.glass).mono ?_; intro e w2 hT; obtain ⟨_, rfl, rfl, g2, on2⟩ := hT.ok h2; clear hT; replace g2 := g1.next on2 g2; have q2 := g2.ptr
                  refine hK _ _ ?_
                  clear hK K
                  refine wpAny_ready (rs := [4, 6]) (by kernel_rfl) (by simp) ?_
                  refine AllReady.cons rfl (fun K hK => ?_) ?_
                  · go_simp
                    refine hK _ _ ?_
                    clear hK K
                    refine wpAny_ready (rs := [6]) (by kernel_rfl) (by simp) ?_
                    refine AllReady.cons rfl (fun K hK => ?_) ?_
                    · go_simp
                      refine (numTwo gb u _ g2.glass).mono ?_; intro e w3 hT; obtain ⟨rfl, on3⟩ := hT.no h3; exact ⟨rfl, Reads.mkNo HT.out rfl ((GOn.of B0).on ((on1.on on2).on on3))⟩
                    exact AllReady.nil
                  refine AllReady.cons rfl (fun K hK => ?_) ?_
                  · go_simp
                    refine (numTwo gb u _ g2.glass).mono ?_; intro e w3 hT; obtain ⟨rfl, on3⟩ := hT.no h3; exact ⟨rfl, Reads.mkNo HT.out rfl ((GOn.of B0).on ((on1.on on2).on on3))⟩
                  exact AllReady.nil
                exact AllReady.nil
              exact AllReady.nil
            refine AllReady.cons rfl (fun K hK => ?_) ?_
            · go_simp
              refine hK _ _ ?_
              clear hK K
              refine wpAny_ready (rs := [1]) (by kernel_rfl) (by simp) ?_
              refine AllReady.cons rfl (fun K hK => ?_) ?_
              · go_simp
                refine (numOne gb s _ h0.glass).mono ?_; intro e w1 hT; obtain ⟨_, rfl, rfl, g1, on1⟩ := hT.ok h1; clear hT; replace g1 := h0.next on1 g1; have q1 := g1.ptr
                refine hK _ _ ?_
                clear hK K
                refine wpAny_ready (rs := [3]) (by kernel_rfl) (by simp) ?_
                refine AllReady.cons rfl (fun K hK => ?_) ?_
                · go_simp
                  refine (numTwo gb t _ g1.glass).mono ?_; intro e w2 hT; obtain ⟨_, rfl, rfl, g2, on2⟩ := hT.ok h2; clear hT; replace g2 := g1.next on2 g2; have q2 := g2.ptr
                  refine hK _ _ ?_
                  clear hK K
                  refine wpAny_ready (rs := [4, 6]) (by kernel_rfl) (by simp) ?_
                  refine AllReady.cons rfl (fun K hK => ?_) ?_
                  · go_simp
                    refine hK _ _ ?_
                    clear hK K
                    refine wpAny_ready (rs := [6]) (by kernel_rfl) (by simp) ?_
                    refine AllReady.cons rfl (fun K hK => ?_) ?_
                    · go_simp
                      refine (numTwo gb u _ g2.glass).mono ?_; intro e w3 hT; obtain ⟨rfl, on3⟩ := hT.no h3; exact ⟨rfl, Reads.mkNo HT.out rfl ((GOn.of B0).on ((on1.on on2).on on3))⟩
                    exact AllReady.nil
                  refine AllReady.cons rfl (fun K hK => ?_) ?_
                  · go_simp
                    refine (numTwo gb u _ g2.glass).mono ?_; intro e w3 hT; obtain ⟨rfl, on3⟩ := hT.no h3; exact ⟨rfl, Reads.mkNo HT.out rfl ((GOn.of B0).on ((on1.on on2).on on3))⟩
                  exact AllReady.nil
                exact AllReady.nil
              exact AllReady.nil
            exact AllReady.nil
          refine AllReady.cons rfl (fun K hK => ?_) ?_
          · go_simp
            refine hK _ _ ?_
            clear hK K
            refine wpAny_ready (rs := [1, 2]) (by kernel_rfl) (by simp) ?_
            refine AllReady.cons rfl (fun K hK => ?_) ?_
            · go_simp
              refine (numOne gb s _ h0.glass).mono ?_; intro e w1 hT; obtain ⟨_, rfl, rfl, g1, on1⟩ := hT.ok h1; clear hT; replace g1 := h0.next on1 g1; have q1 := g1.ptr
              refine hK _ _ ?_
              clear hK K
              refine wpAny_ready (rs := [2]) (by kernel_rfl) (by simp) ?_
              refine AllReady.cons rfl (fun K hK => ?_) ?_
              · go_simp
                refine hK _ _ ?_
                clear hK K
                refine wpAny_ready (rs := [3]) (by kernel_rfl) (by simp) ?_
                refine AllReady.cons rfl (fun K hK => ?_) ?_
                · go_simp
                  refine (numTwo gb t _ g1.glass).mono ?_; intro e w2 hT; obtain ⟨_, rfl, rfl, g2, on2⟩ := hT.ok h2; clear hT; replace g2 := g1.next on2 g2; have q2 := g2.ptr
                  refine hK _ _ ?_
                  clear hK K
                  refine wpAny_ready (rs := [4, 6]) (by kernel_rfl) (by simp) ?_
                  refine AllReady.cons rfl (fun K hK => ?_) ?_
                  · go_simp
                    refine hK _ _ ?_
                    clear hK K
                    refine wpAny_ready (rs := [6]) (by kernel_rfl) (by simp) ?_
                    refine AllReady.cons rfl (fun K hK => ?_) ?_
                    · go_simp
                      refine (numTwo gb u _ g2.glass).mono ?_; intro e w3 hT; obtain ⟨rfl, on3⟩ := hT.no h3; exact ⟨rfl, Reads.mkNo HT.out rfl ((GOn.of B0).on ((on1.on on2).on on3))⟩
                    exact AllReady.nil
                  refine AllReady.cons rfl (fun K hK => ?_) ?_
                  · go_simp
                    refine (numTwo gb u _ g2.glass).mono ?_; intro e w3 hT; obtain ⟨rfl, on3⟩ := hT.no h3; exact ⟨rfl, Reads.mkNo HT.out rfl ((GOn.of B0).on ((on1.on on2).on on3))⟩
                  exact AllReady.nil
                exact AllReady.nil
              exact AllReady.nil
            refine AllReady.cons rfl (fun K hK => ?_) ?_
            · go_simp
              refine hK _ _ ?_
              clear hK K
              refine wpAny_ready (rs := [1]) (by kernel_rfl) (by simp) ?_
              refine AllReady.cons rfl (fun K hK => ?_) ?_
              · go_simp
                refine (numOne gb s _ h0.glass).mono ?_; intro e w1 hT; obtain ⟨_, rfl, rfl, g1, on1⟩ := hT.ok h1; clear hT; replace g1 := h0.next on1 g1; have q1 := g1.ptr
                refine hK _ _ ?_
                clear hK K
                refine wpAny_ready (rs := [3]) (by kernel_rfl) (by simp) ?_
                refine AllReady.cons rfl (fun K hK => ?_) ?_
                · go_simp
                  refine (numTwo gb t _ g1.glass).mono ?_; intro e w2 hT; obtain ⟨_, rfl, rfl, g2, on2⟩ := hT.ok h2; clear hT; replace g2 := g1.next on2 g2; have q2 := g2.ptr
                  refine hK _ _ ?_
                  clear hK K
                  refine wpAny_ready (rs := [4, 6]) (by kernel_rfl) (by simp) ?_
                  refine AllReady.cons rfl (fun K hK => ?_) ?_
                  · go_simp
                    refine hK _ _ ?_
                    clear hK K
                    refine wpAny_ready (rs := [6]) (by kernel_rfl) (by simp) ?_
                    refine AllReady.cons rfl (fun K hK => ?_) ?_
                    · go_simp
                      refine (numTwo gb u _ g2.glass).mono ?_; intro e w3 hT; obtain ⟨rfl, on3⟩ := hT.no h3; exact ⟨rfl, Reads.mkNo HT.out rfl ((GOn.of B0).on ((on1.on on2).on on3))⟩
                    exact AllReady.nil
                  refine AllReady.cons rfl (fun K hK => ?_) ?_
                  · go_simp
                    refine (numTwo gb u _ g2.glass).mono ?_; intro e w3 hT; obtain ⟨rfl, on3⟩ := hT.no h3; exact ⟨rfl, Reads.mkNo HT.out rfl ((GOn.of B0).on ((on1.on on2).on on3))⟩
                  exact AllReady.nil
                exact AllReady.nil
              exact AllReady.nil
            exact AllReady.nil
          exact AllReady.nil
        refine AllReady.cons rfl (fun K hK => ?_) ?_
        · go_simp
          refine hK _ _ ?_
          clear hK K
          refine wpAny_ready (rs := [0, 5]) (by kernel_rfl) (by simp) ?_
          refine AllReady.cons rfl (fun K hK => ?_) ?_
          · go_simp
            refine hK _ _ ?_
            clear hK K
            refine wpAny_ready (rs := [1, 5]) (by kernel_rfl) (by simp) ?_
            refine AllReady.cons rfl (fun K hK => ?_) ?_
            · go_simp
              refine (numOne gb s _ h0.glass).mono ?_; intro e w1 hT; obtain ⟨_, rfl, rfl, g1, on1⟩ := hT.ok h1; clear hT; replace g1 := h0.next on1 g1; have q1 := g1.ptr
              refine hK _ _ ?_
              clear hK K
              refine wpAny_ready (rs := [3, 5]) (by kernel_rfl) (by simp) ?_
              refine AllReady.cons rfl (fun K hK => ?_) ?_
              · go_simp
                refine (numTwo gb t _ g1.glass).mono ?_; intro e w2 hT; obtain ⟨_, rfl, rfl, g2, on2⟩ := hT.ok h2; clear hT; replace g2 := g1.next on2 g2; have q2 := g2.ptr
                refine hK _ _ ?_
                clear hK K
                refine wpAny_ready (rs := [4, 5]) (by kernel_rfl) (by simp) ?_
                refine AllReady.cons rfl (fun K hK => ?_) ?_
                · go_simp
                  refine hK _ _ ?_
                  clear hK K
                  refine wpAny_ready (rs := [5]) (by kernel_rfl) (by simp) ?_
                  refine AllReady.cons rfl (fun K hK => ?_) ?_
                  · go_simp
                    refine hK _ _ ?_
                    clear hK K
                    refine wpAny_ready (rs := [6]) (by kernel_rfl) (by simp) ?_
                    refine AllReady.cons rfl (fun K hK => ?_) ?_
                    · go_simp
                      refine (numTwo gb u _ g2.glass).mono ?_; intro e w3 hT; obtain ⟨rfl, on3⟩ := hT.no h3; exact ⟨rfl, Reads.mkNo HT.out rfl ((GOn.of B0).on ((on1.on on2).on on3))⟩
                    exact AllReady.nil
                  exact AllReady.nil
                refine AllReady.cons rfl (fun K hK => ?_) ?_
                · go_simp
                  refine hK _ _ ?_
                  clear hK K
                  refine wpAny_ready (rs := [4, 6]) (by kernel_rfl) (by simp) ?_
                  refine AllReady.cons rfl (fun K hK => ?_) ?_
                  · go_simp
                    refine hK _ _ ?_
                    clear hK K
                    refine wpAny_ready (rs := [6]) (by kernel_rfl) (by simp) ?_
                    refine AllReady.cons rfl (fun K hK => ?_) ?_
                    · go_simp
                      refine (numTwo gb u _ g2.glass).mono ?_; intro e w3 hT; obtain ⟨rfl, on3⟩ := hT.no h3; exact ⟨rfl, Reads.mkNo HT.out rfl ((GOn.of B0).on ((on1.on on2).on on3))⟩
                    exact AllReady.nil
                  refine AllReady.cons rfl (fun K hK => ?_) ?_
                  · go_simp
                    refine (numTwo gb u _ g2.glass).mono ?_; intro e w3 hT; obtain ⟨rfl, on3⟩ := hT.no h3; exact ⟨rfl, Reads.mkNo HT.out rfl ((GOn.of B0).on ((on1.on on2).on on3))⟩
                  exact AllReady.nil
                exact AllReady.nil
              refine AllReady.cons rfl (fun K hK => ?_) ?_
              · go_simp
                refine hK _ _ ?_
                clear hK K
                refine wpAny_ready (rs := [3]) (by kernel_rfl) (by simp) ?_
                refine AllReady.cons rfl (fun K hK => ?_) ?_
                · go_simp
                  refine (numTwo gb t _ g1.glass).mono ?_; intro e w2 hT; obtain ⟨_, rfl, rfl, g2, on2⟩ := hT.ok h2; clear hT; replace g2 := g1.next on2 g2; have q2 := g2.ptr
                  refine hK _ _ ?_
                  clear hK K
                  refine wpAny_ready (rs := [4, 6]) (by kernel_rfl) (by simp) ?_
                  refine AllReady.cons rfl (fun K hK => ?_) ?_
                  · go_simp
                    refine hK _ _ ?_
                    clear hK K
                    refine wpAny_ready (rs := [6]) (by kernel_rfl) (by simp) ?_
                    refine AllReady.cons rfl (fun K hK => ?_) ?_
                    · go_simp
                      refine (numTwo gb u _ g2.glass).mono ?_; intro e w3 hT; obtain ⟨rfl, on3⟩ := hT.no h3; exact ⟨rfl, Reads.mkNo HT.out rfl ((GOn.of B0).on ((on1.on on2).on on3))⟩
                    exact AllReady.nil
                  refine AllReady.cons rfl (fun K hK => ?_) ?_
                  · go_simp
                    refine (numTwo gb u _ g2.glass).mono ?_; intro e w3 hT; obtain ⟨rfl, on3⟩ := hT.no h3; exact ⟨rfl, Reads.mkNo HT.out rfl ((GOn.of B0).on ((on1.on on2).on on3))⟩
                  exact AllReady.nil
                exact AllReady.nil
              exact AllReady.nil
            refine AllReady.cons rfl (fun K hK => ?_) ?_
            · go_simp
              refine hK _ _ ?_
              clear hK K
              refine wpAny_ready (rs := [1]) (by kernel_rfl) (by simp) ?_
              refine AllReady.cons rfl (fun K hK => ?_) ?_
              · go_simp
                refine (numOne gb s _ h0.glass).mono ?_; intro e w1 hT; obtain ⟨_, rfl, rfl, g1, on1⟩ := hT.ok h1; clear hT; replace g1 := h0.next on1 g1; have q1 := g1.ptr
                refine hK _ _ ?_
                clear hK K
                refine wpAny_ready (rs := [3]) (by kernel_rfl) (by simp) ?_
                refine AllReady.cons rfl (fun K hK => ?_) ?_
                · go_simp
                  refine (numTwo gb t _ g1.glass).mono ?_; intro e w2 hT; obtain ⟨_, rfl, rfl, g2, on2⟩ := hT.ok h2; clear hT; replace g2 := g1.next on2 g2; have q2 := g2.ptr
                  refine hK _ _ ?_
                  clear hK K
                  refine wpAny_ready (rs := [4, 6]) (by kernel_rfl) (by simp) ?_
                  refine AllReady.cons rfl (fun K hK => ?_) ?_
                  · go_simp
                    refine hK _ _ ?_
                    clear hK K
                    refine wpAny_ready (rs := [6]) (by kernel_rfl) (by simp) ?_
                    refine AllReady.cons rfl (fun K hK => ?_) ?_
                    · go_simp
                      refine (numTwo gb u _ g2.glass).mono ?_; intro e w3 hT; obtain ⟨rfl, on3⟩ := hT.no h3; exact ⟨rfl, Reads.mkNo HT.out rfl ((GOn.of B0).on ((on1.on on2).on on3))⟩
                    exact AllReady.nil
                  refine AllReady.cons rfl (fun K hK => ?_) ?_
                  · go_simp
                    refine (numTwo gb u _ g2.glass).mono ?_; intro e w3 hT; obtain ⟨rfl, on3⟩ := hT.no h3; exact ⟨rfl, Reads.mkNo HT.out rfl ((GOn.of B0).on ((on1.on on2).on on3))⟩
                  exact AllReady.nil
                exact AllReady.nil
              exact AllReady.nil
            exact AllReady.nil
          refine AllReady.cons rfl (fun K hK => ?_) ?_
          · go_simp
            refine hK _ _ ?_
            clear hK K
            refine wpAny_ready (rs := [0]) (by kernel_rfl) (by simp) ?_
            refine AllReady.cons rfl (fun K hK => ?_) ?_
            · go_simp
              refine hK _ _ ?_
              clear hK K
              refine wpAny_ready (rs := [1]) (by kernel_rfl) (by simp) ?_
              refine AllReady.cons rfl (fun K hK => ?_) ?_
              · go_simp
                refine (numOne gb s _ h0.glass).mono ?_; intro e w1 hT; obtain ⟨_, rfl, rfl, g1, on1⟩ := hT.ok h1; clear hT; replace g1 := h0.next on1 g1; have q1 := g1.ptr
                refine hK _ _ ?_
                clear hK K
                refine wpAny_ready (rs := [3]) (by kernel_rfl) (by simp) ?_
                refine AllReady.cons rfl (fun K hK => ?_) ?_
                · go_simp
                  refine (numTwo gb t _ g1.glass).mono ?_; intro e w2 hT; obtain ⟨_, rfl, rfl, g2, on2⟩ := hT.ok h2; clear hT; replace g2 := g1.next on2 g2; have q2 := g2.ptr
                  refine hK _ _ ?_
                  clear hK K
                  refine wpAny_ready (rs := [4, 6]) (by kernel_rfl) (by simp) ?_
                  refine AllReady.cons rfl (fun K hK => ?_) ?_
                  · go_simp
                    refine hK _ _ ?_
                    clear hK K
                    refine wpAny_ready (rs := [6]) (by kernel_rfl) (by simp) ?_
                    refine AllReady.cons rfl (fun K hK => ?_) ?_
                    · go_simp
                      refine (numTwo gb u _ g2.glass).mono ?_; intro e w3 hT; obtain ⟨rfl, on3⟩ := hT.no h3; exact ⟨rfl, Reads.mkNo HT.out rfl ((GOn.of B0).on ((on1.on on2).on on3))⟩
                    exact AllReady.nil
                  refine AllReady.cons rfl (fun K hK => ?_) ?_
                  · go_simp
                    refine (numTwo gb u _ g2.glass).mono ?_; intro e w3 hT; obtain ⟨rfl, on3⟩ := hT.no h3; exact ⟨rfl, Reads.mkNo HT.out rfl ((GOn.of B0).on ((on1.on on2).on on3))⟩
                  exact AllReady.nil
                exact AllReady.nil
              exact AllReady.nil
            exact AllReady.nil
          exact AllReady.nil
        refine AllReady.cons rfl (fun K hK => ?_) ?_
        · go_simp
          refine hK _ _ ?_
          clear hK K
          refine wpAny_ready (rs := [0, 2]) (by kernel_rfl) (by simp) ?_
          refine AllReady.cons rfl (fun K hK => ?_) ?_
          · go_simp
            refine hK _ _ ?_
            clear hK K
            refine wpAny_ready (rs := [1, 2]) (by kernel_rfl) (by simp) ?_
            refine AllReady.cons rfl (fun K hK => ?_) ?_
            · go_simp
              refine (numOne gb s _ h0.glass).mono ?_; intro e w1 hT; obtain ⟨_, rfl, rfl, g1, on1⟩ := hT.ok h1; clear hT; replace g1 := h0.next on1 g1; have q1 := g1.ptr
              refine hK _ _ ?_
              clear hK K
              refine wpAny_ready (rs := [2]) (by kernel_rfl) (by simp) ?_
              refine AllReady.cons rfl (fun K hK => ?_) ?_
              · go_simp
                refine hK _ _ ?_
                clear hK K
                refine wpAny_ready (rs := [3]) (by kernel_rfl) (by simp) ?_
                refine AllReady.cons rfl (fun K hK => ?_) ?_
                · go_simp
                  refine (numTwo gb t _ g1.glass).mono ?_; intro e w2 hT; obtain ⟨_, rfl, rfl, g2, on2⟩ := hT.ok h2; clear hT; replace g2 := g1.next on2 g2; have q2 := g2.ptr
                  refine hK _ _ ?_
                  clear hK K
                  refine wpAny_ready (rs := [4, 6]) (by kernel_rfl) (by simp) ?_
                  refine AllReady.cons rfl (fun K hK => ?_) ?_
                  · go_simp
                    refine hK _ _ ?_
                    clear hK K
                    refine wpAny_ready (rs := [6]) (by kernel_rfl) (by simp) ?_
                    refine AllReady.cons rfl (fun K hK => ?_) ?_
                    · go_simp
                      refine (numTwo gb u _ g2.glass).mono ?_; intro e w3 hT; obtain ⟨rfl, on3⟩ := hT.no h3; exact ⟨rfl, Reads.mkNo HT.out rfl ((GOn.of B0).on ((on1.on on2).on on3))⟩
                    exact AllReady.nil
                  refine AllReady.cons rfl (fun K hK => ?_) ?_
                  · go_simp
                    refine (numTwo gb u _ g2.glass).mono ?_; intro e w3 hT; obtain ⟨rfl, on3⟩ := hT.no h3; exact ⟨rfl, Reads.mkNo HT.out rfl ((GOn.of B0).on ((on1.on on2).on on3))⟩
                  exact AllReady.nil
                exact AllReady.nil
              exact AllReady.nil
            refine AllReady.cons rfl (fun K hK => ?_) ?_
            · go_simp
              refine hK _ _ ?_
              clear hK K
              refine wpAny_ready (rs := [1]) (by kernel_rfl) (by simp) ?_
              refine AllReady.cons rfl (fun K hK => ?_) ?_
              · go_simp
                refine (numOne gb s _ h0.glass).mono ?_; intro e w1 hT; obtain ⟨_, rfl, rfl, g1, on1⟩ := hT.ok h1; clear hT; replace g1 := h0.next on1 g1; have q1 := g1.ptr
                refine hK _ _ ?_
                clear hK K
                refine wpAny_ready (rs := [3]) (by kernel_rfl) (by simp) ?_
                refine AllReady.cons rfl (fun K hK => ?_) ?_
                · go_simp
                  refine (numTwo gb t _ g1.glass).mono ?_; intro e w2 hT; obtain ⟨_, rfl, rfl, g2, on2⟩ := hT.ok h2; clear hT; replace g2 := g1.next on2 g2; have q2 := g2.ptr
                  refine hK _ _ ?_
                  clear hK K
                  refine wpAny_ready (rs := [4, 6]) (by kernel_rfl) (by simp) ?_
                  refine AllReady.cons rfl (fun K hK => ?_) ?_
                  · go_simp
                    refine hK _ _ ?_
                    clear hK K
                    refine wpAny_ready (rs := [6]) (by kernel_rfl) (by simp) ?_
                    refine AllReady.cons rfl (fun K hK => ?_) ?_
                    · go_simp
                      refine (numTwo gb u _ g2.glass).mono ?_; intro e w3 hT; obtain ⟨rfl, on3⟩ := hT.no h3; exact ⟨rfl, Reads.mkNo HT.out rfl ((GOn.of B0).on ((on1.on on2).on on3))⟩
                    exact AllReady.nil
                  refine AllReady.cons rfl (fun K hK => ?_) ?_
                  · go_simp
                    refine (numTwo gb u _ g2.glass).mono ?_; intro e w3 hT; obtain ⟨rfl, on3⟩ := hT.no h3; exact ⟨rfl, Reads.mkNo HT.out rfl ((GOn.of B0).on ((on1.on on2).on on3))⟩
                  exact AllReady.nil
                exact AllReady.nil
              exact AllReady.nil
            exact AllReady.nil
          refine AllReady.cons rfl (fun K hK => ?_) ?_
          · go_simp
            refine hK _ _ ?_
            clear hK K
            refine wpAny_ready (rs := [0]) (by kernel_rfl) (by simp) ?_
            refine AllReady.cons rfl (fun K hK => ?_) ?_
            · go_simp
              refine hK _ _ ?_
              clear hK K
              refine wpAny_ready (rs := [1]) (by kernel_rfl) (by simp) ?_
              refine AllReady.cons rfl (fun K hK => ?_) ?_
              · go_simp
                refine (numOne gb s _ h0.glass).mono ?_; intro e w1 hT; obtain ⟨_, rfl, rfl, g1, on1⟩ := hT.ok h1; clear hT; replace g1 := h0.next on1 g1; have q1 := g1.ptr
                refine hK _ _ ?_
                clear hK K
                refine wpAny_ready (rs := [3]) (by kernel_rfl) (by simp) ?_
                refine AllReady.cons rfl (fun K hK => ?_) ?_
                · go_simp
                  refine (numTwo gb t _ g1.glass).mono ?_; intro e w2 hT; obtain ⟨_, rfl, rfl, g2, on2⟩ := hT.ok h2; clear hT; replace g2 := g1.next on2 g2; have q2 := g2.ptr
                  refine hK _ _ ?_
                  clear hK K
                  refine wpAny_ready (rs := [4, 6]) (by kernel_rfl) (by simp) ?_
                  refine AllReady.cons rfl (fun K hK => ?_) ?_
                  · go_simp
                    refine hK _ _ ?_
                    clear hK K
                    refine wpAny_ready (rs := [6]) (by kernel_rfl) (by simp) ?_
                    refine AllReady.cons rfl (fun K hK => ?_) ?_
                    · go_simp
                      refine (numTwo gb u _ g2.glass).mono ?_; intro e w3 hT; obtain ⟨rfl, on3⟩ := hT.no h3; exact ⟨rfl, Reads.mkNo HT.out rfl ((GOn.of B0).on ((on1.on on2).on on3))⟩
                    exact AllReady.nil
                  refine AllReady.cons rfl (fun K hK => ?_) ?_
                  · go_simp
                    refine (numTwo gb u _ g2.glass).mono ?_; intro e w3 hT; obtain ⟨rfl, on3⟩ := hT.no h3; exact ⟨rfl, Reads.mkNo HT.out rfl ((GOn.of B0).on ((on1.on on2).on on3))⟩
                  exact AllReady.nil
                exact AllReady.nil
              exact AllReady.nil
            exact AllReady.nil
          exact AllReady.nil
        exact AllReady.nil
      | some x =>
        obtain ⟨z, r⟩ := x
        have hno := HNO.out; rw [chgG_ok h1 h2 h3] at hno; cases hno

end Go.Pch
end
