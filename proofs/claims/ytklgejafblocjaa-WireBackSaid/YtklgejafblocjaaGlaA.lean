/- The walks of the closures of wire.Read that read two things, one behind the other (written by wip/gen_clo.py). -/
import Derived.Test.YtklgejafblocjaaGlaD
import Derived.RegionDies
import Derived.Deep.RegionHeld3
namespace Go.Pch
open Go.RowKit Go.Proofs
set_option maxRecDepth 100000

/-- A glass, and the variable that points to it. -/
structure GVar (w : World) (gv gb : Nat) (s : Bytes) : Prop where
  glass : GlassAt w gb s
  ptr : w.cell? ⟨gv, 0, none⟩ = some (.pointer (some ⟨gb, 0, none⟩))
  ne : gv ≠ gb
theorem GVar.next {w w' : World} {gv gb : Nat} {s t : Bytes} (h : GVar w gv gb s) (on : GOn gb w w') (hg : GlassAt w' gb t) : GVar w' gv gb t :=
  ⟨hg, (on.cell (World.block_lt_of_cell? w _ h.ptr) h.ne).trans h.ptr, h.ne⟩
/-- A row; a head. -/
def VRow (r : Row) (v : Value) (_ : World) : Prop := v = .agg #[.int .i64 r.1, .int .i64 r.2]
def VHead (h : Head) (v : Value) (_ : World) : Prop := v = .agg #[.string h.1, .int .i64 h.2]
theorem Step.late {X : Blk} {w w' : World} (h : Step X w w') {p : Addr} (u : Value) (hp : w.heap.size ≤ p.block) : Step X w (w'.setCell p u) :=
  ⟨h.os, h.tape, h.output, by simpa [World.setCell] using h.size, fun k hk hn => (Below.heap_setCell _ _ _ _ (by omega)).trans (h.block k hk hn)⟩
theorem twoCells {w2 : World} {g gv gb : Nat} {a b : Value} {t : TypeId} {u : Bytes} (hr : w2.heap[g]? = some (.cells #[a, b] t)) (hg : gv < g) (hb : g ≠ gb) (g2 : GVar w2 gv gb u) :
    w2.cell? ⟨g, 0, none⟩ = some a ∧ w2.cell? ⟨g, 1, none⟩ = some b ∧ (∀ i, w2.frozen? ⟨g, i, none⟩ = false) ∧ (∀ x y, ((w2.setCell ⟨g, 0, none⟩ x).setCell ⟨g, 1, none⟩ y).cell? ⟨gv, 0, none⟩ = some (.pointer (some ⟨gb, 0, none⟩))) ∧
      (∀ x y, ((w2.setCell ⟨g, 0, none⟩ x).setCell ⟨g, 1, none⟩ y).heap[g]? = some (.cells #[x, y] t)) ∧ ∀ x y, GlassAt ((w2.setCell ⟨g, 0, none⟩ x).setCell ⟨g, 1, none⟩ y) gb u := by
  refine ⟨by rw [World.cell?, hr]; rfl, by rw [World.cell?, hr]; rfl, fun i => frozen_of_row w2 g i _ _ hr, fun x y => ?_, fun x y => ?_, fun x y => ?_⟩
  · refine (World.cell?_of_block (w := w2) ?_).trans g2.ptr
    exact (heap_setCell_other _ _ _ _ (by simp; omega)).trans (heap_setCell_other _ _ _ _ (by simp; omega))
  · exact heap_setCell_same _ g 1 _ _ y (heap_setCell_same w2 g 0 _ _ x hr)
  · exact (heap_setCell_other _ _ _ _ (by simp; omega)).trans ((heap_setCell_other _ _ _ _ (by simp; omega)).trans g2.glass)

set_option maxHeartbeats 2000000 in
theorem readRow (gv gb : Nat) (s : Bytes) (w : World) (h : GVar w gv gb s) :
    Calls Try.prog 50 #[.pointer (some ⟨gv, 0, none⟩)] w (Reads gb w VRow (rowG s)) := by
  have B0 : Below w.heap.size w (w.alloc (.cells #[.int .i64 0, .int .i64 0] 74)).drew := ((Below.refl _ _).alloc (Nat.le_refl _) _).drew
  have h0 := h.next (GOn.of B0) (h.glass.call B0)
  have q := h.ptr
  have hgl := World.block_lt_of_cell? w _ h.ptr
  have q0 : (w.alloc (.cells #[.int .i64 0, .int .i64 0] 74)).cell? ⟨gv, 0, none⟩ = some (.pointer (some ⟨gb, 0, none⟩)) := h0.ptr
  have hrow : (w.alloc (.cells #[.int .i64 0, .int .i64 0] 74)).drew.heap[w.heap.size]? = some (.cells #[.int .i64 0, .int .i64 0] 74) := heap_alloc_new w _
  have hsz : w.heap.size < (w.alloc (.cells #[.int .i64 0, .int .i64 0] 74)).drew.heap.size := by simp [World.drew]
  have hng : w.heap.size ≠ gb := by have := h.glass.lt; omega
  cases h1 : num1 s with
  | none =>
    have HT : Hid (rowG s = none) := by rw [rowG, h1]; rfl
    go_enter Try.func50, Try.ntmps50
    go_wp2_with fail
    refine wp_region_any (by kernel_rfl) ?_
    change wpAny _ _ _ _ _ _ _ (World.drew _)
    refine wpAny_ready (rs := [0, 2]) (by kernel_rfl) (by simp) ?_
    refine AllReady.cons rfl (fun K hK => ?_) ?_
    · go_simp
      refine hK _ _ ?_
      clear hK K
      refine wpAny_ready (rs := [1, 2]) (by kernel_rfl) (by simp) ?_
      refine AllReady.cons rfl (fun K hK => ?_) ?_
      · go_simp
        refine (numOne gb s _ h0.glass).mono ?_; intro e w1 hT; obtain ⟨rfl, on1⟩ := hT.no h1; exact ⟨rfl, Reads.mkNo HT.out rfl ((GOn.of B0).on on1)⟩
      refine AllReady.cons rfl (fun K hK => ?_) ?_
      · go_simp
        refine hK _ _ ?_
        clear hK K
        refine wpAny_ready (rs := [1]) (by kernel_rfl) (by simp) ?_
        refine AllReady.cons rfl (fun K hK => ?_) ?_
        · go_simp
          refine (numOne gb s _ h0.glass).mono ?_; intro e w1 hT; obtain ⟨rfl, on1⟩ := hT.no h1; exact ⟨rfl, Reads.mkNo HT.out rfl ((GOn.of B0).on on1)⟩
        exact AllReady.nil
      exact AllReady.nil
    refine AllReady.cons rfl (fun K hK => ?_) ?_
    · go_simp
      refine hK _ _ ?_
      clear hK K
      refine wpAny_ready (rs := [0]) (by kernel_rfl) (by simp) ?_
      refine AllReady.cons rfl (fun K hK => ?_) ?_
      · go_simp
        refine hK _ _ ?_
        clear hK K
        refine wpAny_ready (rs := [1]) (by kernel_rfl) (by simp) ?_
        refine AllReady.cons rfl (fun K hK => ?_) ?_
        · go_simp
          refine (numOne gb s _ h0.glass).mono ?_; intro e w1 hT; obtain ⟨rfl, on1⟩ := hT.no h1; exact ⟨rfl, Reads.mkNo HT.out rfl ((GOn.of B0).on on1)⟩
        exact AllReady.nil
      exact AllReady.nil
    exact AllReady.nil
  | some x =>
    obtain ⟨k, t⟩ := x
    cases h2 : num2 t with
    | none =>
      have HT : Hid (rowG s = none) := by rw [rowG, h1]; show Hid ((num2 t).map _ = none); rw [h2]; rfl
      go_enter Try.func50, Try.ntmps50
      go_wp2_with fail
      refine wp_region_any (by kernel_rfl) ?_
      change wpAny _ _ _ _ _ _ _ (World.drew _)
      refine wpAny_ready (rs := [0, 2]) (by kernel_rfl) (by simp) ?_
      refine AllReady.cons rfl (fun K hK => ?_) ?_
      · go_simp
        refine hK _ _ ?_
        clear hK K
        refine wpAny_ready (rs := [1, 2]) (by kernel_rfl) (by simp) ?_
        refine AllReady.cons rfl (fun K hK => ?_) ?_
        · go_simp
          refine (numOne gb s _ h0.glass).mono ?_; intro e w1 hT; obtain ⟨_, rfl, rfl, g1, on1⟩ := hT.ok h1; clear hT; replace g1 := h0.next on1 g1; have q1 := g1.ptr
          refine hK _ _ ?_
          clear hK K
          refine wpAny_ready (rs := [2]) (by kernel_rfl) (by simp) ?_
          refine AllReady.cons rfl (fun K hK => ?_) ?_
          · go_simp
            refine hK _ _ ?_
            clear hK K
            refine wpAny_ready (rs := [3]) (by kernel_rfl) (by simp) ?_
            refine AllReady.cons rfl (fun K hK => ?_) ?_
            · go_simp
              refine (numTwo gb t _ g1.glass).mono ?_; intro e w2 hT; obtain ⟨rfl, on2⟩ := hT.no h2; exact ⟨rfl, Reads.mkNo HT.out rfl ((GOn.of B0).on (on1.on on2))⟩
            exact AllReady.nil
          exact AllReady.nil
        refine AllReady.cons rfl (fun K hK => ?_) ?_
        · go_simp
          refine hK _ _ ?_
          clear hK K
          refine wpAny_ready (rs := [1]) (by kernel_rfl) (by simp) ?_
          refine AllReady.cons rfl (fun K hK => ?_) ?_
          · go_simp
            refine (numOne gb s _ h0.glass).mono ?_; intro e w1 hT; obtain ⟨_, rfl, rfl, g1, on1⟩ := hT.ok h1; clear hT; replace g1 := h0.next on1 g1; have q1 := g1.ptr
            refine hK _ _ ?_
            clear hK K
            refine wpAny_ready (rs := [3]) (by kernel_rfl) (by simp) ?_
            refine AllReady.cons rfl (fun K hK => ?_) ?_
            · go_simp
              refine (numTwo gb t _ g1.glass).mono ?_; intro e w2 hT; obtain ⟨rfl, on2⟩ := hT.no h2; exact ⟨rfl, Reads.mkNo HT.out rfl ((GOn.of B0).on (on1.on on2))⟩
            exact AllReady.nil
          exact AllReady.nil
        exact AllReady.nil
      refine AllReady.cons rfl (fun K hK => ?_) ?_
      · go_simp
        refine hK _ _ ?_
        clear hK K
        refine wpAny_ready (rs := [0]) (by kernel_rfl) (by simp) ?_
        refine AllReady.cons rfl (fun K hK => ?_) ?_
        · go_simp
          refine hK _ _ ?_
          clear hK K
          refine wpAny_ready (rs := [1]) (by kernel_rfl) (by simp) ?_
          refine AllReady.cons rfl (fun K hK => ?_) ?_
          · go_simp
            refine (numOne gb s _ h0.glass).mono ?_; intro e w1 hT; obtain ⟨_, rfl, rfl, g1, on1⟩ := hT.ok h1; clear hT; replace g1 := h0.next on1 g1; have q1 := g1.ptr
            refine hK _ _ ?_
            clear hK K
            refine wpAny_ready (rs := [3]) (by kernel_rfl) (by simp) ?_
            refine AllReady.cons rfl (fun K hK => ?_) ?_
            · go_simp
              refine (numTwo gb t _ g1.glass).mono ?_; intro e w2 hT; obtain ⟨rfl, on2⟩ := hT.no h2; exact ⟨rfl, Reads.mkNo HT.out rfl ((GOn.of B0).on (on1.on on2))⟩
            exact AllReady.nil
          exact AllReady.nil
        exact AllReady.nil
      exact AllReady.nil
    | some y =>
      obtain ⟨v, u⟩ := y
      have HT : Hid (rowG s = some ((k, v), u)) := by rw [rowG, h1]; show Hid ((num2 t).map _ = _); rw [h2]; rfl
      go_enter Try.func50, Try.ntmps50
      go_wp2_with fail
      go_region_held3 (fun W => W.cell? ⟨gv, 0, none⟩ = some (.pointer (some ⟨gb, 0, none⟩)))
        (first
          | exact q0
          | exact h0.ptr
          | exact g1.ptr
          | exact g2.ptr
          | exact g4 _ _
          | fail)
        (first
          | (go_at_call 51; refine (numTwo gb t _ g1.glass).mono ?_; intro e w2 hT; obtain ⟨_, rfl, rfl, g2, on2⟩ := hT.ok h2; clear hT; replace g2 := g1.next on2 g2; have on12 := on1.on on2; have hr2 := (on12.block _ hsz hng).trans hrow; obtain ⟨cc0, cc1, ff0, g4, g5, g6⟩ := twoCells hr2 hgl hng g2)
          | (go_at_call 51; refine (numOne gb s _ h0.glass).mono ?_; intro e w1 hT; obtain ⟨_, rfl, rfl, g1, on1⟩ := hT.ok h1; clear hT; replace g1 := h0.next on1 g1)
          | fail)
      go_wp2
      exact bodyPost_ret (results_cell_row rfl _ _ _ _ _ _ _ rfl (g5 _ _) Try.underlying74 rfl rfl) rfl (Reads.mk HT.out rfl rfl (g6 _ _) ((((GOn.of B0).on on12).late _ (Nat.le_refl _)).late _ (Nat.le_refl _)))

set_option maxHeartbeats 2000000 in
theorem readHead (gv gb : Nat) (s : Bytes) (w : World) (h : GVar w gv gb s) :
    Calls Try.prog 55 #[.pointer (some ⟨gv, 0, none⟩)] w (Reads gb w VHead (headG s)) := by
  have B0 : Below w.heap.size w (w.alloc (.cells #[.string ⟨#[]⟩, .int .i64 0] 76)).drew := ((Below.refl _ _).alloc (Nat.le_refl _) _).drew
  have h0 := h.next (GOn.of B0) (h.glass.call B0)
  have q := h.ptr
  have hgl := World.block_lt_of_cell? w _ h.ptr
  have q0 : (w.alloc (.cells #[.string ⟨#[]⟩, .int .i64 0] 76)).cell? ⟨gv, 0, none⟩ = some (.pointer (some ⟨gb, 0, none⟩)) := h0.ptr
  have hrow : (w.alloc (.cells #[.string ⟨#[]⟩, .int .i64 0] 76)).drew.heap[w.heap.size]? = some (.cells #[.string ⟨#[]⟩, .int .i64 0] 76) := heap_alloc_new w _
  have hsz : w.heap.size < (w.alloc (.cells #[.string ⟨#[]⟩, .int .i64 0] 76)).drew.heap.size := by simp [World.drew]
  have hng : w.heap.size ≠ gb := by have := h.glass.lt; omega
  cases h1 : textG s with
  | none =>
    have HT : Hid (headG s = none) := by rw [headG, h1]; rfl
    go_enter Try.func55, Try.ntmps55
    go_wp2_with fail
    refine wp_region_any (by kernel_rfl) ?_
    change wpAny _ _ _ _ _ _ _ (World.drew _)
    refine wpAny_ready (rs := [0, 2]) (by kernel_rfl) (by simp) ?_
    refine AllReady.cons rfl (fun K hK => ?_) ?_
    · go_simp
      refine hK _ _ ?_
      clear hK K
      refine wpAny_ready (rs := [1, 2]) (by kernel_rfl) (by simp) ?_
      refine AllReady.cons rfl (fun K hK => ?_) ?_
      · go_simp
        refine (glaText gb s _ h0.glass).mono ?_; intro e w1 hT; obtain ⟨rfl, on1⟩ := hT.no h1; exact ⟨rfl, Reads.mkNo HT.out rfl ((GOn.of B0).on on1)⟩
      refine AllReady.cons rfl (fun K hK => ?_) ?_
      · go_simp
        refine hK _ _ ?_
        clear hK K
        refine wpAny_ready (rs := [1]) (by kernel_rfl) (by simp) ?_
        refine AllReady.cons rfl (fun K hK => ?_) ?_
        · go_simp
          refine (glaText gb s _ h0.glass).mono ?_; intro e w1 hT; obtain ⟨rfl, on1⟩ := hT.no h1; exact ⟨rfl, Reads.mkNo HT.out rfl ((GOn.of B0).on on1)⟩
        exact AllReady.nil
      exact AllReady.nil
    refine AllReady.cons rfl (fun K hK => ?_) ?_
    · go_simp
      refine hK _ _ ?_
      clear hK K
      refine wpAny_ready (rs := [0]) (by kernel_rfl) (by simp) ?_
      refine AllReady.cons rfl (fun K hK => ?_) ?_
      · go_simp
        refine hK _ _ ?_
        clear hK K
        refine wpAny_ready (rs := [1]) (by kernel_rfl) (by simp) ?_
        refine AllReady.cons rfl (fun K hK => ?_) ?_
        · go_simp
          refine (glaText gb s _ h0.glass).mono ?_; intro e w1 hT; obtain ⟨rfl, on1⟩ := hT.no h1; exact ⟨rfl, Reads.mkNo HT.out rfl ((GOn.of B0).on on1)⟩
        exact AllReady.nil
      exact AllReady.nil
    exact AllReady.nil
  | some x =>
    obtain ⟨k, t⟩ := x
    cases h2 : num1 t with
    | none =>
      have HT : Hid (headG s = none) := by rw [headG, h1]; show Hid ((num1 t).map _ = none); rw [h2]; rfl
      go_enter Try.func55, Try.ntmps55
      go_wp2_with fail
      refine wp_region_any (by kernel_rfl) ?_
      change wpAny _ _ _ _ _ _ _ (World.drew _)
      refine wpAny_ready (rs := [0, 2]) (by kernel_rfl) (by simp) ?_
      refine AllReady.cons rfl (fun K hK => ?_) ?_
      · go_simp
        refine hK _ _ ?_
        clear hK K
        refine wpAny_ready (rs := [1, 2]) (by kernel_rfl) (by simp) ?_
        refine AllReady.cons rfl (fun K hK => ?_) ?_
        · go_simp
          refine (glaText gb s _ h0.glass).mono ?_; intro e w1 hT; obtain ⟨_, rfl, rfl, g1, on1⟩ := hT.ok h1; clear hT; replace g1 := h0.next on1 g1; have q1 := g1.ptr
          refine hK _ _ ?_
          clear hK K
          refine wpAny_ready (rs := [2]) (by kernel_rfl) (by simp) ?_
          refine AllReady.cons rfl (fun K hK => ?_) ?_
          · go_simp
            refine hK _ _ ?_
            clear hK K
            refine wpAny_ready (rs := [3]) (by kernel_rfl) (by simp) ?_
            refine AllReady.cons rfl (fun K hK => ?_) ?_
            · go_simp
              refine (numOne gb t _ g1.glass).mono ?_; intro e w2 hT; obtain ⟨rfl, on2⟩ := hT.no h2; exact ⟨rfl, Reads.mkNo HT.out rfl ((GOn.of B0).on (on1.on on2))⟩
            exact AllReady.nil
          exact AllReady.nil
        refine AllReady.cons rfl (fun K hK => ?_) ?_
        · go_simp
          refine hK _ _ ?_
          clear hK K
          refine wpAny_ready (rs := [1]) (by kernel_rfl) (by simp) ?_
          refine AllReady.cons rfl (fun K hK => ?_) ?_
          · go_simp
            refine (glaText gb s _ h0.glass).mono ?_; intro e w1 hT; obtain ⟨_, rfl, rfl, g1, on1⟩ := hT.ok h1; clear hT; replace g1 := h0.next on1 g1; have q1 := g1.ptr
            refine hK _ _ ?_
            clear hK K
            refine wpAny_ready (rs := [3]) (by kernel_rfl) (by simp) ?_
            refine AllReady.cons rfl (fun K hK => ?_) ?_
            · go_simp
              refine (numOne gb t _ g1.glass).mono ?_; intro e w2 hT; obtain ⟨rfl, on2⟩ := hT.no h2; exact ⟨rfl, Reads.mkNo HT.out rfl ((GOn.of B0).on (on1.on on2))⟩
            exact AllReady.nil
          exact AllReady.nil
        exact AllReady.nil
      refine AllReady.cons rfl (fun K hK => ?_) ?_
      · go_simp
        refine hK _ _ ?_
        clear hK K
        refine wpAny_ready (rs := [0]) (by kernel_rfl) (by simp) ?_
        refine AllReady.cons rfl (fun K hK => ?_) ?_
        · go_simp
          refine hK _ _ ?_
          clear hK K
          refine wpAny_ready (rs := [1]) (by kernel_rfl) (by simp) ?_
          refine AllReady.cons rfl (fun K hK => ?_) ?_
          · go_simp
            refine (glaText gb s _ h0.glass).mono ?_; intro e w1 hT; obtain ⟨_, rfl, rfl, g1, on1⟩ := hT.ok h1; clear hT; replace g1 := h0.next on1 g1; have q1 := g1.ptr
            refine hK _ _ ?_
            clear hK K
            refine wpAny_ready (rs := [3]) (by kernel_rfl) (by simp) ?_
            refine AllReady.cons rfl (fun K hK => ?_) ?_
            · go_simp
              refine (numOne gb t _ g1.glass).mono ?_; intro e w2 hT; obtain ⟨rfl, on2⟩ := hT.no h2; exact ⟨rfl, Reads.mkNo HT.out rfl ((GOn.of B0).on (on1.on on2))⟩
            exact AllReady.nil
          exact AllReady.nil
        exact AllReady.nil
      exact AllReady.nil
    | some y =>
      obtain ⟨v, u⟩ := y
      have HT : Hid (headG s = some ((k, v), u)) := by rw [headG, h1]; show Hid ((num1 t).map _ = _); rw [h2]; rfl
      go_enter Try.func55, Try.ntmps55
      go_wp2_with fail
      go_region_held3 (fun W => W.cell? ⟨gv, 0, none⟩ = some (.pointer (some ⟨gb, 0, none⟩)))
        (first
          | exact q0
          | exact h0.ptr
          | exact g1.ptr
          | exact g2.ptr
          | exact g4 _ _
          | fail)
        (first
          | (go_at_call 51; refine (numOne gb t _ g1.glass).mono ?_; intro e w2 hT; obtain ⟨_, rfl, rfl, g2, on2⟩ := hT.ok h2; clear hT; replace g2 := g1.next on2 g2; have on12 := on1.on on2; have hr2 := (on12.block _ hsz hng).trans hrow; obtain ⟨cc0, cc1, ff0, g4, g5, g6⟩ := twoCells hr2 hgl hng g2)
          | (go_at_call 56; refine (glaText gb s _ h0.glass).mono ?_; intro e w1 hT; obtain ⟨_, rfl, rfl, g1, on1⟩ := hT.ok h1; clear hT; replace g1 := h0.next on1 g1)
          | fail)
      go_wp2
      exact bodyPost_ret (results_cell_row rfl _ _ _ _ _ _ _ rfl (g5 _ _) Try.underlying76 rfl rfl) rfl (Reads.mk HT.out rfl rfl (g6 _ _) ((((GOn.of B0).on on12).late _ (Nat.le_refl _)).late _ (Nat.le_refl _)))

end Go.Pch
