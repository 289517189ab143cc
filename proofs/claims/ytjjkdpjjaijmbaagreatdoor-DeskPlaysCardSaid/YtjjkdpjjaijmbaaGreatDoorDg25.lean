/- The walks of the document's OwnRepo and grown. -/
import Derived.Test.YtjjkdpjjaijmbaaGreatDoorDg23
import Derived.Test.YtjjkdpjjaijmbaaGreatDoorDg24
import Derived.Test.YtjjkdpjjaijmbaaGreatDoorDg13
section
namespace Go.Pch
open Go.RowKit Go.Proofs
set_option maxRecDepth 100000
set_option linter.unusedSimpArgs false
theorem Own.emptyAt {α : Type} {E : Ty α} {e : TypeId} {w : World} {B g : Nat} {C : Blk} (hg : w.heap[g]? = some (.cells #[] e)) (hB : B ≤ g) : Own E e w B C (.slice (some ⟨g, 0, none⟩) 0 0) [] :=
  Own.of_cells (cur := []) (xs := []) (cap := 0) (l := ([] : List α)) hB hg (Nat.le_refl _) (by decide) (by simp) (by simp) Each.nil
theorem step_clone {P : Program} {α : Type} {E : Ty α} {e T : TypeId} {wr W0 : World} {gA : Nat} {S : Blk} {l : List α} {ops : Array Oper} {o : Oper} {a : Act} {K : Act → World → Prop} {Q : Exit → Act → World → Prop} {Ex : Prop} (hgd : o.guard = none) (s x : Operand)
    (ho : o.op = .call { callee := .builtin .append, args := #[s, x], argTypes := #[T, T] }) (hA : At P E T e) (hs : a.eval s = .slice (some ⟨gA, 0, none⟩) 0 0) (hE : W0.heap[gA]? = some (.cells #[] e)) (hg : wr.heap.size ≤ gA) (hb : Below wr.heap.size wr W0) {ao : Option Addr} {c n : Nat} (hx : a.eval x = .slice ao n c) (hsl : Sl E wr S (.slice ao n c) l) (hn : l.length ≤ 1000)
    (hK : ∀ a1 c1 w1, Own E e w1 wr.heap.size (fun k => k < wr.heap.size) (.slice a1 l.length c1) l → Below wr.heap.size wr w1 → (∀ (g : Nat) (cs : Array Value) (t : TypeId), t ≠ e → W0.heap[g]? = some (.cells cs t) → w1.heap[g]? = some (.cells cs t)) → K (a.put o.dst (.slice a1 l.length c1)) w1) :
    if Region.wanted o (yielded ops a.tmps) = true then Oper.wp P o a W0 K Q else Ex := by
  have hs0 := hb.size
  obtain ⟨ao', cp, hv, _, _, hnil⟩ := hsl.shape
  simp only [Value.slice.injEq] at hv
  obtain ⟨rfl, rfl, rfl⟩ := hv
  refine step_grow hgd s x ho hA hs (Own.emptyAt (B := wr.heap.size) (C := fun k => k < wr.heap.size) hE hg) hx rfl ((hsl.old.call hb).src) (fun h => hnil h) (fun k hk _ => ⟨hk, fun e => by simp [Value.ownBlock] at e; omega⟩) (by simp; omega) hs0 fun v' w' h1 h2 => ?_
  rw [List.nil_append] at h1
  obtain ⟨a1, c1, rfl, _, _⟩ := h1.shape
  refine hK a1 c1 w' h1 (hb.grown h2 hs0 fun g hg' => by simp [Value.ownBlock] at hg'; omega) fun g cs t ht hgc => ?_
  refine (h2.block g (Array.getElem?_eq_some_iff.1 hgc).1 fun e => ?_).trans hgc
  simp [Value.ownBlock] at e
  subst e
  rw [hE] at hgc
  simp at hgc
  exact ht hgc.2.symm
theorem Own.typed {α : Type} {E : Ty α} {e : TypeId} {w w' : World} {B : Nat} {v : Value} {l : List α} (h : Own E e w B (fun _ => False) v l) (hk : ∀ (g : Nat) (cs : Array Value), w.heap[g]? = some (.cells cs e) → w'.heap[g]? = some (.cells cs e)) : Own E e w' B (fun _ => False) v l := by
  refine h.keep fun k hk' _ => ?_
  rcases hk' with hk' | hk'
  · exact hk'.elim
  · obtain ⟨cur, hc⟩ := h.rowAt k hk'
    rw [hc]; exact hk k _ hc
set_option maxHeartbeats 1000000 in
theorem refOwn (v : Value) (r : Repo) (S : Blk) (w : World) (h : Rp w S v r) (h1 : r.1.length ≤ 1000) (h2 : r.2.length ≤ 1000) (h3 : ∀ c ∈ r.1, c.1.length ≤ 1000 ∧ c.2.length ≤ 1000) :
    Calls Tryz.prog 82 #[v] w (Ret w fun x W => ∃ vc vh, x = .agg #[vc, vh] ∧ OwnR W w.heap.size vc vh r) := by
  have hR := h
  obtain ⟨cs, hs⟩ := r
  obtain ⟨vc, vh, rfl, hc, hh⟩ := h
  obtain ⟨ac, cc, rfl, _, _, _⟩ := hc.shape
  obtain ⟨ah, ch, rfl, _, _, hhn⟩ := hh.shape
  simp only at hc hh h1 h2 h3
  have hX := boxAt w (.slice ac cs.length cc) (.slice ah hs.length ch)
  obtain ⟨wB, hwB⟩ : ∃ wB, wB = (w.alloc (.cells #[.slice ac cs.length cc, .slice ah hs.length ch] 33)).alloc (.cells #[.slice none 0 0, .slice none 0 0] 33) := ⟨_, rfl⟩
  rw [← hwB] at hX
  have HWB := keepBack hwB
  clear hwB
  have zB := hX.size
  have bE := (Below.refl wB.heap.size wB).alloc (Nat.le_refl _) (.cells #[] 61)
  have hhE := ((hh.call hX.low).old.mono (S' := fun k => k < w.heap.size + 2) fun k hk _ => by omega).call bE
  have hEm := heap_alloc_new wB (.cells #[] 61)
  obtain ⟨y0, y1, y2, y3, yf⟩ := hX.on bE
  have bE' := bE
  rw [HWB.out] at y0 y1 y2 y3 hhE
  rw [show wB.heap.size = w.heap.size + 1 + 1 by omega, HWB.out] at hEm
  have hDD : ∀ k, k < w.heap.size + 2 → some k ≠ (Value.slice (some ⟨w.heap.size + 1 + 1, 0, none⟩) 0 0).ownBlock := fun k hk e => by simp [Value.ownBlock] at e; omega
  go_enter Tryz.func82, Tryz.ntmps82
  go_wp2_with (at_builtin; refine wpList_grow rfl (.tmp 5) (.tmp 7) rfl aHead rfl (Own.emptyAt (B := w.heap.size + 2) (C := fun k => k < w.heap.size + 2) hEm (by omega)) rfl rfl hhE.src hhn (fun k hk _ => ⟨hk, hDD k hk⟩) (by simp; omega) (by simp) ?_)
  intro vh1 w3 hoh hg3
  rw [← HWB.out] at hg3
  have b3 : Below wB.heap.size wB w3 := bE.grown hg3 (by simp) (fun g hg => by simp [Value.ownBlock] at hg; omega)
  have z3 := b3.size
  clear y0 y1 y2 y3 yf
  obtain ⟨y0, y1, y2, y3, yf⟩ := hX.on b3
  obtain ⟨a3, c3, rfl, _, _⟩ := hoh.shape
  have h04 : (w3.alloc (.cells #[.slice none 0 0, .slice a3 hs.length c3] 33)).heap[w3.heap.size]? = some (.cells #[.slice none 0 0, .slice a3 hs.length c3] 33) := heap_alloc_new _ _
  have b34 := (Below.refl w3.heap.size w3).alloc (Nat.le_refl _) (.cells #[.slice none 0 0, .slice a3 hs.length c3] 33)
  have z34 : (w3.alloc (.cells #[.slice none 0 0, .slice a3 hs.length c3] 33)).heap.size = w3.heap.size + 1 := by simp
  clear y0 y1 y2 y3 yf
  go_wp2_with fail
  generalize w3.alloc (.cells #[.slice none 0 0, .slice a3 hs.length c3] 33) = w4 at *
  go_loopw [4] (fun ui wr => ∃ (j : Nat) (vl : Value), j ≤ cs.length ∧ ui = .int .i64 j ∧ wr.heap[w3.heap.size]? = some (.cells #[vl, .slice a3 hs.length c3] 33) ∧ Own tCommit 59 wr (w3.heap.size + 1) (fun k => w3.heap.size + 1 ≤ k) vl (cs.take j) ∧ Step (fun k => k = w3.heap.size) w4 wr) (fun ui _ => cs.length - (intOf ui).toNat)
  case atStart => exact ⟨0, _, Nat.zero_le _, rfl, h04, Own.nil, Step.refl _ _⟩
  case round =>
    obtain ⟨j, vl, hj, rfl, hrow, hol, hst⟩ := hrel
    have zr := hst.size
    have bBr : Below wB.heap.size wB wr := (b3.trans (b34.mono z3)).trans (hst.below (fun k hk => by omega) (by omega))
    obtain ⟨y0, y1, y2, y3, yf⟩ := hX.on bBr
    by_cases hlt : j < cs.length
    · obtain ⟨rs, ps, hcj⟩ : ∃ rs ps, cs[j] = (rs, ps) := ⟨_, _, rfl⟩
      obtain ⟨bc, oc, cr, cp, dr, dp, hixc, hbw, hbc, hrr, hpp, _, _, _, _, hc0, hc1⟩ := (hc.old.call (hX.low.trans (bBr.mono (by omega)))).idxCommitAt aCom j j rfl hlt rs ps hcj
      have hln := h3 (rs, ps) (hcj ▸ List.getElem_mem hlt)
      simp only at hln
      have HN : Hid (cs.take (j + 1) = cs.take j ++ [(rs, ps)]) := keepBack (by rw [List.take_succ_eq_append_getElem hlt, hcj])
      have HLN : Hid ((cs.take j).length = j) := keepBack (by simp; omega)
      obtain ⟨al, cl, rfl, _, _⟩ := hol.shape
      have o0 : wr.cell? ⟨w3.heap.size, 0, none⟩ = some (.slice al (cs.take j).length cl) := by rw [World.cell?, hrow]; rfl
      have hjI : (j : Int) < cs.length := by omega
      clear hcj
      generalize cs.take j = L at *
      have FK : ∀ W, Below wr.heap.size wr W → W.cell? ⟨w.heap.size, 0, none⟩ = some (.slice ac cs.length cc) ∧ W.cell? ⟨bc, oc, none⟩ = some (.slice cr rs.length cp) ∧ W.cell? ⟨bc, oc + 1, none⟩ = some (.slice dr ps.length dp) ∧ W.cell? ⟨w3.heap.size, 0, none⟩ = some (.slice al L.length cl) := fun W hW =>
        ⟨(hX.on (bBr.trans (hW.mono bBr.size))).1, (hW.cell (p := ⟨bc, oc, none⟩) hbc).trans hc0, (hW.cell (p := ⟨bc, oc + 1, none⟩) hbc).trans hc1, (hW.cell (p := ⟨w3.heap.size, 0, none⟩) (by simp; omega)).trans o0⟩
      have bA := (Below.refl wr.heap.size wr).alloc (Nat.le_refl _) (.cells #[] 86)
      have bI := (Below.refl wr.heap.size wr).alloc (Nat.le_refl _) (.cells #[] 3)
      have bAI := bA.alloc bA.size (.cells #[] 3)
      have bIA := bI.alloc bI.size (.cells #[] 86)
      have eA0 := heap_alloc_new wr (.cells #[] 86)
      have eI0 := heap_alloc_new wr (.cells #[] 3)
      have eAI0 := (Below.heap_alloc (wr.alloc (.cells #[] 86)) (.cells #[] 3) wr.heap.size (by simp)).trans eA0
      have eIA0 := (Below.heap_alloc (wr.alloc (.cells #[] 3)) (.cells #[] 86) wr.heap.size (by simp)).trans eI0
      have eAI1 := heap_alloc_new (wr.alloc (.cells #[] 86)) (.cells #[] 3)
      have eIA1 := heap_alloc_new (wr.alloc (.cells #[] 3)) (.cells #[] 86)
      rw [show (wr.alloc (.cells #[] 86)).heap.size = wr.heap.size + 1 by simp] at eAI1
      rw [show (wr.alloc (.cells #[] 3)).heap.size = wr.heap.size + 1 by simp] at eIA1
      have HE := keepBack (⟨eA0, eI0, eAI0, eIA0, eAI1, eIA1⟩ : _ ∧ _ ∧ _ ∧ _ ∧ _ ∧ _)
      clear eA0 eI0 eAI0 eIA0 eAI1 eIA1
      obtain ⟨qA0, qA1, qA2, qA3⟩ := FK _ bA
      obtain ⟨qI0, qI1, qI2, qI3⟩ := FK _ bI
      obtain ⟨qAI0, qAI1, qAI2, qAI3⟩ := FK _ bAI
      obtain ⟨qIA0, qIA1, qIA2, qIA3⟩ := FK _ bIA
      have FS : ∀ W, Below wB.heap.size wB W → W.cell? ⟨w.heap.size, 0, none⟩ = some (.slice ac cs.length cc) ∧ W.cell? ⟨bc, oc, none⟩ = some (.slice cr rs.length cp) ∧ W.cell? ⟨bc, oc + 1, none⟩ = some (.slice dr ps.length dp) := fun W hW =>
        ⟨(hX.on hW).1, (hW.cell (p := ⟨bc, oc, none⟩) (by simp; omega)).trans ((bBr.cell (p := ⟨bc, oc, none⟩) (by simp; omega)).symm.trans hc0), (hW.cell (p := ⟨bc, oc + 1, none⟩) (by simp; omega)).trans ((bBr.cell (p := ⟨bc, oc + 1, none⟩) (by simp; omega)).symm.trans hc1)⟩
      have FIN : ∀ (w6 w7 : World) (a7 : Option Addr) (c7 : Nat), Below wr.heap.size wr w6 → Own tCommit 59 w7 (w3.heap.size + 1) (fun k => w3.heap.size + 1 ≤ k) (.slice a7 (L.length + 1) c7) (L ++ [(rs, ps)]) → w6.grownBy w7 (Value.slice al L.length cl).ownBlock →
          (w7.setCell ⟨w3.heap.size, 0, none⟩ (.slice a7 (L.length + 1) c7)).heap[w3.heap.size]? = some (.cells #[.slice a7 (L.length + 1) c7, .slice a3 hs.length c3] 33) ∧ Own tCommit 59 (w7.setCell ⟨w3.heap.size, 0, none⟩ (.slice a7 (L.length + 1) c7)) (w3.heap.size + 1) (fun k => w3.heap.size + 1 ≤ k) (.slice a7 (L.length + 1) c7) (cs.take (j + 1)) ∧
          Step (fun k => k = w3.heap.size) w4 (w7.setCell ⟨w3.heap.size, 0, none⟩ (.slice a7 (L.length + 1) c7)) := by
        intro w6 w7 a7 c7 b6 ho7 hg7
        have hrow7 : w7.heap[w3.heap.size]? = some (.cells #[.slice al L.length cl, .slice a3 hs.length c3] 33) := (hg7.block _ (by have := b6.size; omega) fun e => by have := (hol.block _ e.symm).1; omega).trans ((b6.block _ (by omega)).trans hrow)
        refine ⟨heap_setCell_same w7 _ 0 _ _ _ hrow7, ?_, ?_⟩
        · rw [HN.out]
          exact ho7.keep fun k hk _ => heap_setCell_other _ _ _ _ (by
            rcases hk with hk | hk
            · simp; omega
            · have := (ho7.block k hk).1; simp; omega)
        · exact ((hst.trans (Step.of_below (X := fun _ => False) b6) fun _ _ h => h.elim).trans (Step.grown (X := fun k => w3.heap.size + 1 ≤ k) hg7 fun k hk => (hol.block k hk).1) fun k hk h => by omega).on (Step.setCell _ _ rfl)
      have gD := bBr.trans (bA.drew.mono bBr.size)
      have gA := bBr.trans (bA.mono bBr.size)
      have gI := bBr.trans (bI.mono bBr.size)
      have gAI := bBr.trans (bAI.mono bBr.size)
      have gIA := bBr.trans (bIA.mono bBr.size)
      go_wp2_with fail
      clear y0 y1 y2 y3 yf hc0 hc1
      --BEGIN
      have gAd := gA.drew
      have gId := gI.drew
      have gAId := gAI.drew
      have gIAd := gIA.drew
      have bBd := bBr.drew
      refine wp_region_held_drew (S := fun W => W.cell? ⟨w.heap.size, 0, none⟩ = some (.slice ac cs.length cc) ∧ W.cell? ⟨bc, oc, none⟩ = some (.slice cr rs.length cp) ∧ W.cell? ⟨bc, oc + 1, none⟩ = some (.slice dr ps.length dp)) (by kernel_rfl) (FS _ bBr.drew) (fun hHeld => ?_)
      refine wpAnyH_take (i := 0) (v := ?_) rfl (by kernel_rfl) (by kernel_rfl) (by kernel_rfl) (fun _ _ _ h => h) (Or.inl ⟨by rfl, ?_⟩) (by assumption) ?_
      rotate_left
      · intro w hSw; go_simp; try with_reducible rfl
      simp only [Act.put, List.setIfInBounds_toArray, List.set_cons_zero, List.set_cons_succ]
      refine wpAnyH_take (i := 3) (v := ?_) rfl (by kernel_rfl) (by kernel_rfl) (by kernel_rfl) (fun _ _ _ h => h) (Or.inl ⟨by rfl, ?_⟩) (by assumption) ?_
      rotate_left
      · intro w hSw; go_simp; try with_reducible rfl
      simp only [Act.put, List.setIfInBounds_toArray, List.set_cons_zero, List.set_cons_succ]
      refine wpAnyH_take (i := 4) (v := ?_) rfl (by kernel_rfl) (by kernel_rfl) (by kernel_rfl) (fun _ _ _ h => h) (Or.inl ⟨by rfl, ?_⟩) (by assumption) ?_
      rotate_left
      · intro w hSw; go_simp; try with_reducible rfl
      simp only [Act.put, List.setIfInBounds_toArray, List.set_cons_zero, List.set_cons_succ]
      refine wpAnyH_take (i := 5) (v := ?_) rfl (by kernel_rfl) (by kernel_rfl) (by kernel_rfl) (fun _ _ _ h => h) (Or.inl ⟨by rfl, ?_⟩) (by assumption) ?_
      rotate_left
      · intro w hSw; go_simp; try with_reducible rfl
      simp only [Act.put, List.setIfInBounds_toArray, List.set_cons_zero, List.set_cons_succ]
      refine wpAnyH_take (i := 6) (v := ?_) rfl (by kernel_rfl) (by kernel_rfl) (by kernel_rfl) (fun _ _ _ h => h) (Or.inl ⟨by rfl, ?_⟩) (by assumption) ?_
      rotate_left
      · intro w hSw; go_simp; try with_reducible rfl
      simp only [Act.put, List.setIfInBounds_toArray, List.set_cons_zero, List.set_cons_succ]
      refine wpAnyH_take (i := 7) (v := ?_) rfl (by kernel_rfl) (by kernel_rfl) (by kernel_rfl) (fun _ _ _ h => h) (Or.inl ⟨by rfl, ?_⟩) (by assumption) ?_
      rotate_left
      · intro w hSw; go_simp; try with_reducible rfl
      simp only [Act.put, List.setIfInBounds_toArray, List.set_cons_zero, List.set_cons_succ]
      refine wpAnyH_take (i := 8) (v := ?_) rfl (by kernel_rfl) (by kernel_rfl) (by kernel_rfl) (fun _ _ _ h => h) (Or.inl ⟨by rfl, ?_⟩) (by assumption) ?_
      rotate_left
      · intro w hSw; go_simp; try with_reducible rfl
      simp only [Act.put, List.setIfInBounds_toArray, List.set_cons_zero, List.set_cons_succ]
      refine wpAnyH_take (i := 11) (v := ?_) rfl (by kernel_rfl) (by kernel_rfl) (by kernel_rfl) (fun _ _ _ h => h) (Or.inl ⟨by rfl, ?_⟩) (by assumption) ?_
      rotate_left
      · intro w hSw; go_simp; try with_reducible rfl
      simp only [Act.put, List.setIfInBounds_toArray, List.set_cons_zero, List.set_cons_succ]
      refine wpAnyH_take (i := 12) (v := ?_) rfl (by kernel_rfl) (by kernel_rfl) (by kernel_rfl) (fun _ _ _ h => h) (Or.inl ⟨by rfl, ?_⟩) (by assumption) ?_
      rotate_left
      · intro w hSw; go_simp; try with_reducible rfl
      simp only [Act.put, List.setIfInBounds_toArray, List.set_cons_zero, List.set_cons_succ]
      refine wpAnyH_take (i := 13) (v := ?_) rfl (by kernel_rfl) (by kernel_rfl) (by kernel_rfl) (fun _ _ _ h => h) (Or.inl ⟨by rfl, ?_⟩) (by assumption) ?_
      rotate_left
      · intro w hSw; go_simp; try with_reducible rfl
      simp only [Act.put, List.setIfInBounds_toArray, List.set_cons_zero, List.set_cons_succ]
      refine wpAnyH_take (i := 14) (v := ?_) rfl (by kernel_rfl) (by kernel_rfl) (by kernel_rfl) (fun _ _ _ h => h) (Or.inl ⟨by rfl, ?_⟩) (by assumption) ?_
      rotate_left
      · intro w hSw; go_simp; try with_reducible rfl
      simp only [Act.put, List.setIfInBounds_toArray, List.set_cons_zero, List.set_cons_succ]
      refine wpAnyH_take (i := 15) (v := ?_) rfl (by kernel_rfl) (by kernel_rfl) (by kernel_rfl) (fun _ _ _ h => h) (Or.inl ⟨by rfl, ?_⟩) (by assumption) ?_
      rotate_left
      · intro w hSw; go_simp; try with_reducible rfl
      simp only [Act.put, List.setIfInBounds_toArray, List.set_cons_zero, List.set_cons_succ]
      refine wpAnyH_take (i := 16) (v := ?_) rfl (by kernel_rfl) (by kernel_rfl) (by kernel_rfl) (fun _ _ _ h => h) (Or.inl ⟨by rfl, ?_⟩) (by assumption) ?_
      rotate_left
      · intro w hSw; go_simp; try with_reducible rfl
      simp only [Act.put, List.setIfInBounds_toArray, List.set_cons_zero, List.set_cons_succ]
      refine wpAnyH_ready (rs := [1, 2, 10]) (by kernel_rfl) (by simp) ?_
      refine AllReadyH.cons rfl (fun K hK => ?_) ?_
      · go_simp
        refine hK.out _ _ (FS _ (by assumption)) (fun hHeld => ?_)
        clear hK K
        refine wpAnyH_ready (rs := [2, 10]) (by kernel_rfl) (by simp) ?_
        refine AllReadyH.cons rfl (fun K hK => ?_) ?_
        · go_simp
          refine hK.out _ _ (FS _ (by assumption)) (fun hHeld => ?_)
          clear hK K
          refine wpAnyH_ready (rs := [9, 10]) (by kernel_rfl) (by simp) ?_
          refine AllReadyH.cons rfl (fun K hK => ?_) ?_
          · refine step_clone rfl (.tmp 19) (.tmp 25) rfl aRow rfl (by first | exact HE.out.1 | exact HE.out.2.2.1 | exact HE.out.2.2.2.2.2 | fail) (by simp) (by first | exact bA.drew | exact bAI.drew | exact bIA.drew | exact bA | exact bAI | exact bIA | fail) rfl hrr hln.1 ?_
            intro a5 c5 w5 ho5 b5 hk5
            obtain ⟨q0, q1, q2, q3⟩ := FK w5 b5
            obtain ⟨qq0, qq1, qq2, qq3⟩ := FK _ (b5.alloc b5.size (.cells #[] 3))
            have g5 := bBr.trans (b5.mono bBr.size)
            have g5a := g5.alloc g5.size (.cells #[] 3)
            refine hK.out _ _ (FS _ (by assumption)) (fun hHeld => ?_)
            clear hK K
            refine wpAnyH_ready (rs := [10]) (by kernel_rfl) (by simp) ?_
            refine AllReadyH.cons rfl (fun K hK => ?_) ?_
            · go_simp
              refine hK.out _ _ (FS _ (by assumption)) (fun hHeld => ?_)
              clear hK K
              refine wpAnyH_ready (rs := [17]) (by kernel_rfl) (by simp) ?_
              refine AllReadyH.cons rfl (fun K hK => ?_) ?_
              · refine step_clone rfl (.tmp 27) (.tmp 33) rfl aInt rfl (by first | exact heap_alloc_new w5 _ | exact hk5 _ _ _ (by decide) HE.out.2.2.2.2.1 | exact hk5 _ _ _ (by decide) HE.out.2.2.2.1 | fail) (by have := b5.size; simp <;> omega) (by first | exact b5 | exact b5.alloc b5.size _ | fail) rfl hpp hln.2 ?_
                intro a6 c6 w6 ho6 b6 hk6
                have ho56 : Own tRow 86 w6 wr.heap.size (fun _ => False) (.slice a5 rs.length c5) rs := (by first | exact (ho5.flatRow (D := fun _ => False)).typed fun g cs h => hk6 g cs _ (by decide) h | exact ((ho5.flatRow (D := fun _ => False)).alloc _).typed fun g cs h => hk6 g cs _ (by decide) h | fail)
                have slr := ho56.sl (D := fun k => wr.heap.size ≤ k) (fun _ h => h.elim) (fun _ h => h)
                have slp := (ho6.flatInt (D := fun _ => False)).sl (D := fun k => wr.heap.size ≤ k) (fun _ h => h.elim) (fun _ h => h)
                have bW := (Below.refl w6.heap.size w6).alloc (Nat.le_refl _) (.cells #[.slice a5 rs.length c5, .slice a6 ps.length c6] 59)
                have bC := b6.trans (bW.mono b6.size)
                have slrC := slr.call bW
                have slpC := slp.call bW
                obtain ⟨r0, r1, r2, r3⟩ := FK w6 b6
                obtain ⟨rr0, rr1, rr2, rr3⟩ := FK _ bC
                have g6 := bBr.trans (b6.mono bBr.size)
                have g6a := bBr.trans (bC.mono bBr.size)
                clear ho5 hk5 ho6 hk6
                refine hK.out _ _ (FS _ (by assumption)) (fun hHeld => ?_)
                clear hK K
                refine wpAnyH_take (i := 18) (v := ?_) rfl (by kernel_rfl) (by kernel_rfl) (by kernel_rfl) (fun _ _ _ h => h) (Or.inl ⟨by rfl, ?_⟩) (by assumption) ?_
                rotate_left
                · intro w hSw; go_simp; try with_reducible rfl
                simp only [Act.put, List.setIfInBounds_toArray, List.set_cons_zero, List.set_cons_succ]
                refine wpAnyH_ready (rs := [19]) (by kernel_rfl) (by simp) ?_
                refine AllReadyH.cons rfl (fun K hK => ?_) ?_
                · go_simp
                  refine hK.out _ _ (FS _ (by assumption)) (fun hHeld => ?_)
                  clear hK K
                  refine wpAnyH_ready (rs := [20]) (by kernel_rfl) (by simp) ?_
                  refine AllReadyH.cons rfl (fun K hK => ?_) ?_
                  · refine step_grow rfl (.tmp 18) (.tmp 36) rfl aCom rfl (hol.call bC) rfl rfl (Src.one (tCommit_mk slr slp) _) (by simp) (fun k hk _ => ⟨by omega, fun e => by have := (hol.block k e.symm).2; omega⟩) (by have := HLN.out; simp; omega) (by have := bC.size; omega) ?_
                    intro v7 w7 ho7 hg7
                    obtain ⟨a7, c7, hv7, _, _⟩ := ho7.shape
                    rw [show (L ++ [(rs, ps)]).length = L.length + 1 by simp] at hv7
                    subst hv7
                    have hrow7 : w7.heap[w3.heap.size]? = some (.cells #[.slice al L.length cl, .slice a3 hs.length c3] 33) := (hg7.block _ (by have := bC.size; omega) fun e => by have := (hol.block _ e.symm).1; omega).trans ((bC.block _ (by omega)).trans hrow)
                    have e7 : w7.cell? ⟨w3.heap.size, 0, none⟩ = some (.slice al L.length cl) := by rw [World.cell?, hrow7]; rfl
                    have f7 := frozen_of_row w7 w3.heap.size 0 _ _ hrow7
                    have g7 : Below wB.heap.size wB w7 := g6a.grown hg7 g6a.size fun g hg => by have := (hol.block g hg).1; omega
                    have g8 := g7.setCell (p := ⟨w3.heap.size, 0, none⟩) z3 (.slice a7 (L.length + 1) c7)
                    obtain ⟨fr, fo, fs⟩ := FIN _ w7 a7 c7 bC ho7 hg7
                    clear ho7 hg7 hrow7
                    refine hK.out _ _ (FS _ (by assumption)) (fun hHeld => ?_)
                    clear hK K
                    refine wpAnyH_take (i := 21) (v := ?_) rfl (by kernel_rfl) (by kernel_rfl) (by kernel_rfl) (fun _ _ _ h => h) (Or.inl ⟨by rfl, ?_⟩) (by assumption) ?_
                    rotate_left
                    · intro w hSw; go_simp; try with_reducible rfl
                    simp only [Act.put, List.setIfInBounds_toArray, List.set_cons_zero, List.set_cons_succ]
                    refine wpAnyH_ready (rs := [22]) (by kernel_rfl) (by simp) ?_
                    refine AllReadyH.cons rfl (fun K hK => ?_) ?_
                    · go_simp
                      refine hK.out _ _ (FS _ (by assumption)) (fun hHeld => ?_)
                      clear hK K
                      refine wpAnyH_done (by kernel_rfl) ?_ _
                      go_wp2_with fail
                      go_roundw
                      case rel => exact ⟨j + 1, _, by omega, by go_num, fr, fo, fs⟩
                      case measure => simp [intOf]; omega
                    exact AllReadyH.nil
                  exact AllReadyH.nil
                exact AllReadyH.nil
              exact AllReadyH.nil
            exact AllReadyH.nil
          refine AllReadyH.cons rfl (fun K hK => ?_) ?_
          · go_simp
            refine hK.out _ _ (FS _ (by assumption)) (fun hHeld => ?_)
            clear hK K
            refine wpAnyH_ready (rs := [9]) (by kernel_rfl) (by simp) ?_
            refine AllReadyH.cons rfl (fun K hK => ?_) ?_
            · refine step_clone rfl (.tmp 19) (.tmp 25) rfl aRow rfl (by first | exact HE.out.1 | exact HE.out.2.2.1 | exact HE.out.2.2.2.2.2 | fail) (by simp) (by first | exact bA.drew | exact bAI.drew | exact bIA.drew | exact bA | exact bAI | exact bIA | fail) rfl hrr hln.1 ?_
              intro a5 c5 w5 ho5 b5 hk5
              obtain ⟨q0, q1, q2, q3⟩ := FK w5 b5
              obtain ⟨qq0, qq1, qq2, qq3⟩ := FK _ (b5.alloc b5.size (.cells #[] 3))
              have g5 := bBr.trans (b5.mono bBr.size)
              have g5a := g5.alloc g5.size (.cells #[] 3)
              refine hK.out _ _ (FS _ (by assumption)) (fun hHeld => ?_)
              clear hK K
              refine wpAnyH_ready (rs := [17]) (by kernel_rfl) (by simp) ?_
              refine AllReadyH.cons rfl (fun K hK => ?_) ?_
              · refine step_clone rfl (.tmp 27) (.tmp 33) rfl aInt rfl (by first | exact heap_alloc_new w5 _ | exact hk5 _ _ _ (by decide) HE.out.2.2.2.2.1 | exact hk5 _ _ _ (by decide) HE.out.2.2.2.1 | fail) (by have := b5.size; simp <;> omega) (by first | exact b5 | exact b5.alloc b5.size _ | fail) rfl hpp hln.2 ?_
                intro a6 c6 w6 ho6 b6 hk6
                have ho56 : Own tRow 86 w6 wr.heap.size (fun _ => False) (.slice a5 rs.length c5) rs := (by first | exact (ho5.flatRow (D := fun _ => False)).typed fun g cs h => hk6 g cs _ (by decide) h | exact ((ho5.flatRow (D := fun _ => False)).alloc _).typed fun g cs h => hk6 g cs _ (by decide) h | fail)
                have slr := ho56.sl (D := fun k => wr.heap.size ≤ k) (fun _ h => h.elim) (fun _ h => h)
                have slp := (ho6.flatInt (D := fun _ => False)).sl (D := fun k => wr.heap.size ≤ k) (fun _ h => h.elim) (fun _ h => h)
                have bW := (Below.refl w6.heap.size w6).alloc (Nat.le_refl _) (.cells #[.slice a5 rs.length c5, .slice a6 ps.length c6] 59)
                have bC := b6.trans (bW.mono b6.size)
                have slrC := slr.call bW
                have slpC := slp.call bW
                obtain ⟨r0, r1, r2, r3⟩ := FK w6 b6
                obtain ⟨rr0, rr1, rr2, rr3⟩ := FK _ bC
                have g6 := bBr.trans (b6.mono bBr.size)
                have g6a := bBr.trans (bC.mono bBr.size)
                clear ho5 hk5 ho6 hk6
                refine hK.out _ _ (FS _ (by assumption)) (fun hHeld => ?_)
                clear hK K
                refine wpAnyH_take (i := 18) (v := ?_) rfl (by kernel_rfl) (by kernel_rfl) (by kernel_rfl) (fun _ _ _ h => h) (Or.inl ⟨by rfl, ?_⟩) (by assumption) ?_
                rotate_left
                · intro w hSw; go_simp; try with_reducible rfl
                simp only [Act.put, List.setIfInBounds_toArray, List.set_cons_zero, List.set_cons_succ]
                refine wpAnyH_ready (rs := [19]) (by kernel_rfl) (by simp) ?_
                refine AllReadyH.cons rfl (fun K hK => ?_) ?_
                · go_simp
                  refine hK.out _ _ (FS _ (by assumption)) (fun hHeld => ?_)
                  clear hK K
                  refine wpAnyH_ready (rs := [20]) (by kernel_rfl) (by simp) ?_
                  refine AllReadyH.cons rfl (fun K hK => ?_) ?_
                  · refine step_grow rfl (.tmp 18) (.tmp 36) rfl aCom rfl (hol.call bC) rfl rfl (Src.one (tCommit_mk slr slp) _) (by simp) (fun k hk _ => ⟨by omega, fun e => by have := (hol.block k e.symm).2; omega⟩) (by have := HLN.out; simp; omega) (by have := bC.size; omega) ?_
                    intro v7 w7 ho7 hg7
                    obtain ⟨a7, c7, hv7, _, _⟩ := ho7.shape
                    rw [show (L ++ [(rs, ps)]).length = L.length + 1 by simp] at hv7
                    subst hv7
                    have hrow7 : w7.heap[w3.heap.size]? = some (.cells #[.slice al L.length cl, .slice a3 hs.length c3] 33) := (hg7.block _ (by have := bC.size; omega) fun e => by have := (hol.block _ e.symm).1; omega).trans ((bC.block _ (by omega)).trans hrow)
                    have e7 : w7.cell? ⟨w3.heap.size, 0, none⟩ = some (.slice al L.length cl) := by rw [World.cell?, hrow7]; rfl
                    have f7 := frozen_of_row w7 w3.heap.size 0 _ _ hrow7
                    have g7 : Below wB.heap.size wB w7 := g6a.grown hg7 g6a.size fun g hg => by have := (hol.block g hg).1; omega
                    have g8 := g7.setCell (p := ⟨w3.heap.size, 0, none⟩) z3 (.slice a7 (L.length + 1) c7)
                    obtain ⟨fr, fo, fs⟩ := FIN _ w7 a7 c7 bC ho7 hg7
                    clear ho7 hg7 hrow7
                    refine hK.out _ _ (FS _ (by assumption)) (fun hHeld => ?_)
                    clear hK K
                    refine wpAnyH_take (i := 21) (v := ?_) rfl (by kernel_rfl) (by kernel_rfl) (by kernel_rfl) (fun _ _ _ h => h) (Or.inl ⟨by rfl, ?_⟩) (by assumption) ?_
                    rotate_left
                    · intro w hSw; go_simp; try with_reducible rfl
                    simp only [Act.put, List.setIfInBounds_toArray, List.set_cons_zero, List.set_cons_succ]
                    refine wpAnyH_ready (rs := [22]) (by kernel_rfl) (by simp) ?_
                    refine AllReadyH.cons rfl (fun K hK => ?_) ?_
                    · go_simp
                      refine hK.out _ _ (FS _ (by assumption)) (fun hHeld => ?_)
                      clear hK K
                      refine wpAnyH_done (by kernel_rfl) ?_ _
                      go_wp2_with fail
                      go_roundw
                      case rel => exact ⟨j + 1, _, by omega, by go_num, fr, fo, fs⟩
                      case measure => simp [intOf]; omega
                    exact AllReadyH.nil
                  exact AllReadyH.nil
                exact AllReadyH.nil
              exact AllReadyH.nil
            exact AllReadyH.nil
          exact AllReadyH.nil
        refine AllReadyH.cons rfl (fun K hK => ?_) ?_
        · go_simp
          refine hK.out _ _ (FS _ (by assumption)) (fun hHeld => ?_)
          clear hK K
          refine wpAnyH_ready (rs := [2]) (by kernel_rfl) (by simp) ?_
          refine AllReadyH.cons rfl (fun K hK => ?_) ?_
          · go_simp
            refine hK.out _ _ (FS _ (by assumption)) (fun hHeld => ?_)
            clear hK K
            refine wpAnyH_ready (rs := [9]) (by kernel_rfl) (by simp) ?_
            refine AllReadyH.cons rfl (fun K hK => ?_) ?_
            · refine step_clone rfl (.tmp 19) (.tmp 25) rfl aRow rfl (by first | exact HE.out.1 | exact HE.out.2.2.1 | exact HE.out.2.2.2.2.2 | fail) (by simp) (by first | exact bA.drew | exact bAI.drew | exact bIA.drew | exact bA | exact bAI | exact bIA | fail) rfl hrr hln.1 ?_
              intro a5 c5 w5 ho5 b5 hk5
              obtain ⟨q0, q1, q2, q3⟩ := FK w5 b5
              obtain ⟨qq0, qq1, qq2, qq3⟩ := FK _ (b5.alloc b5.size (.cells #[] 3))
              have g5 := bBr.trans (b5.mono bBr.size)
              have g5a := g5.alloc g5.size (.cells #[] 3)
              refine hK.out _ _ (FS _ (by assumption)) (fun hHeld => ?_)
              clear hK K
              refine wpAnyH_ready (rs := [17]) (by kernel_rfl) (by simp) ?_
              refine AllReadyH.cons rfl (fun K hK => ?_) ?_
              · refine step_clone rfl (.tmp 27) (.tmp 33) rfl aInt rfl (by first | exact heap_alloc_new w5 _ | exact hk5 _ _ _ (by decide) HE.out.2.2.2.2.1 | exact hk5 _ _ _ (by decide) HE.out.2.2.2.1 | fail) (by have := b5.size; simp <;> omega) (by first | exact b5 | exact b5.alloc b5.size _ | fail) rfl hpp hln.2 ?_
                intro a6 c6 w6 ho6 b6 hk6
                have ho56 : Own tRow 86 w6 wr.heap.size (fun _ => False) (.slice a5 rs.length c5) rs := (by first | exact (ho5.flatRow (D := fun _ => False)).typed fun g cs h => hk6 g cs _ (by decide) h | exact ((ho5.flatRow (D := fun _ => False)).alloc _).typed fun g cs h => hk6 g cs _ (by decide) h | fail)
                have slr := ho56.sl (D := fun k => wr.heap.size ≤ k) (fun _ h => h.elim) (fun _ h => h)
                have slp := (ho6.flatInt (D := fun _ => False)).sl (D := fun k => wr.heap.size ≤ k) (fun _ h => h.elim) (fun _ h => h)
                have bW := (Below.refl w6.heap.size w6).alloc (Nat.le_refl _) (.cells #[.slice a5 rs.length c5, .slice a6 ps.length c6] 59)
                have bC := b6.trans (bW.mono b6.size)
                have slrC := slr.call bW
                have slpC := slp.call bW
                obtain ⟨r0, r1, r2, r3⟩ := FK w6 b6
                obtain ⟨rr0, rr1, rr2, rr3⟩ := FK _ bC
                have g6 := bBr.trans (b6.mono bBr.size)
                have g6a := bBr.trans (bC.mono bBr.size)
                clear ho5 hk5 ho6 hk6
                refine hK.out _ _ (FS _ (by assumption)) (fun hHeld => ?_)
                clear hK K
                refine wpAnyH_take (i := 18) (v := ?_) rfl (by kernel_rfl) (by kernel_rfl) (by kernel_rfl) (fun _ _ _ h => h) (Or.inl ⟨by rfl, ?_⟩) (by assumption) ?_
                rotate_left
                · intro w hSw; go_simp; try with_reducible rfl
                simp only [Act.put, List.setIfInBounds_toArray, List.set_cons_zero, List.set_cons_succ]
                refine wpAnyH_ready (rs := [19]) (by kernel_rfl) (by simp) ?_
                refine AllReadyH.cons rfl (fun K hK => ?_) ?_
                · go_simp
                  refine hK.out _ _ (FS _ (by assumption)) (fun hHeld => ?_)
                  clear hK K
                  refine wpAnyH_ready (rs := [20]) (by kernel_rfl) (by simp) ?_
                  refine AllReadyH.cons rfl (fun K hK => ?_) ?_
                  · refine step_grow rfl (.tmp 18) (.tmp 36) rfl aCom rfl (hol.call bC) rfl rfl (Src.one (tCommit_mk slr slp) _) (by simp) (fun k hk _ => ⟨by omega, fun e => by have := (hol.block k e.symm).2; omega⟩) (by have := HLN.out; simp; omega) (by have := bC.size; omega) ?_
                    intro v7 w7 ho7 hg7
                    obtain ⟨a7, c7, hv7, _, _⟩ := ho7.shape
                    rw [show (L ++ [(rs, ps)]).length = L.length + 1 by simp] at hv7
                    subst hv7
                    have hrow7 : w7.heap[w3.heap.size]? = some (.cells #[.slice al L.length cl, .slice a3 hs.length c3] 33) := (hg7.block _ (by have := bC.size; omega) fun e => by have := (hol.block _ e.symm).1; omega).trans ((bC.block _ (by omega)).trans hrow)
                    have e7 : w7.cell? ⟨w3.heap.size, 0, none⟩ = some (.slice al L.length cl) := by rw [World.cell?, hrow7]; rfl
                    have f7 := frozen_of_row w7 w3.heap.size 0 _ _ hrow7
                    have g7 : Below wB.heap.size wB w7 := g6a.grown hg7 g6a.size fun g hg => by have := (hol.block g hg).1; omega
                    have g8 := g7.setCell (p := ⟨w3.heap.size, 0, none⟩) z3 (.slice a7 (L.length + 1) c7)
                    obtain ⟨fr, fo, fs⟩ := FIN _ w7 a7 c7 bC ho7 hg7
                    clear ho7 hg7 hrow7
                    refine hK.out _ _ (FS _ (by assumption)) (fun hHeld => ?_)
                    clear hK K
                    refine wpAnyH_take (i := 21) (v := ?_) rfl (by kernel_rfl) (by kernel_rfl) (by kernel_rfl) (fun _ _ _ h => h) (Or.inl ⟨by rfl, ?_⟩) (by assumption) ?_
                    rotate_left
                    · intro w hSw; go_simp; try with_reducible rfl
                    simp only [Act.put, List.setIfInBounds_toArray, List.set_cons_zero, List.set_cons_succ]
                    refine wpAnyH_ready (rs := [22]) (by kernel_rfl) (by simp) ?_
                    refine AllReadyH.cons rfl (fun K hK => ?_) ?_
                    · go_simp
                      refine hK.out _ _ (FS _ (by assumption)) (fun hHeld => ?_)
                      clear hK K
                      refine wpAnyH_done (by kernel_rfl) ?_ _
                      go_wp2_with fail
                      go_roundw
                      case rel => exact ⟨j + 1, _, by omega, by go_num, fr, fo, fs⟩
                      case measure => simp [intOf]; omega
                    exact AllReadyH.nil
                  exact AllReadyH.nil
                exact AllReadyH.nil
              exact AllReadyH.nil
            exact AllReadyH.nil
          exact AllReadyH.nil
        exact AllReadyH.nil
      refine AllReadyH.cons rfl (fun K hK => ?_) ?_
      · go_simp
        refine hK.out _ _ (FS _ (by assumption)) (fun hHeld => ?_)
        clear hK K
        refine wpAnyH_ready (rs := [1, 9, 10]) (by kernel_rfl) (by simp) ?_
        refine AllReadyH.cons rfl (fun K hK => ?_) ?_
        · go_simp
          refine hK.out _ _ (FS _ (by assumption)) (fun hHeld => ?_)
          clear hK K
          refine wpAnyH_ready (rs := [9, 10]) (by kernel_rfl) (by simp) ?_
          refine AllReadyH.cons rfl (fun K hK => ?_) ?_
          · refine step_clone rfl (.tmp 19) (.tmp 25) rfl aRow rfl (by first | exact HE.out.1 | exact HE.out.2.2.1 | exact HE.out.2.2.2.2.2 | fail) (by simp) (by first | exact bA.drew | exact bAI.drew | exact bIA.drew | exact bA | exact bAI | exact bIA | fail) rfl hrr hln.1 ?_
            intro a5 c5 w5 ho5 b5 hk5
            obtain ⟨q0, q1, q2, q3⟩ := FK w5 b5
            obtain ⟨qq0, qq1, qq2, qq3⟩ := FK _ (b5.alloc b5.size (.cells #[] 3))
            have g5 := bBr.trans (b5.mono bBr.size)
            have g5a := g5.alloc g5.size (.cells #[] 3)
            refine hK.out _ _ (FS _ (by assumption)) (fun hHeld => ?_)
            clear hK K
            refine wpAnyH_ready (rs := [10]) (by kernel_rfl) (by simp) ?_
            refine AllReadyH.cons rfl (fun K hK => ?_) ?_
            · go_simp
              refine hK.out _ _ (FS _ (by assumption)) (fun hHeld => ?_)
              clear hK K
              refine wpAnyH_ready (rs := [17]) (by kernel_rfl) (by simp) ?_
              refine AllReadyH.cons rfl (fun K hK => ?_) ?_
              · refine step_clone rfl (.tmp 27) (.tmp 33) rfl aInt rfl (by first | exact heap_alloc_new w5 _ | exact hk5 _ _ _ (by decide) HE.out.2.2.2.2.1 | exact hk5 _ _ _ (by decide) HE.out.2.2.2.1 | fail) (by have := b5.size; simp <;> omega) (by first | exact b5 | exact b5.alloc b5.size _ | fail) rfl hpp hln.2 ?_
                intro a6 c6 w6 ho6 b6 hk6
                have ho56 : Own tRow 86 w6 wr.heap.size (fun _ => False) (.slice a5 rs.length c5) rs := (by first | exact (ho5.flatRow (D := fun _ => False)).typed fun g cs h => hk6 g cs _ (by decide) h | exact ((ho5.flatRow (D := fun _ => False)).alloc _).typed fun g cs h => hk6 g cs _ (by decide) h | fail)
                have slr := ho56.sl (D := fun k => wr.heap.size ≤ k) (fun _ h => h.elim) (fun _ h => h)
                have slp := (ho6.flatInt (D := fun _ => False)).sl (D := fun k => wr.heap.size ≤ k) (fun _ h => h.elim) (fun _ h => h)
                have bW := (Below.refl w6.heap.size w6).alloc (Nat.le_refl _) (.cells #[.slice a5 rs.length c5, .slice a6 ps.length c6] 59)
                have bC := b6.trans (bW.mono b6.size)
                have slrC := slr.call bW
                have slpC := slp.call bW
                obtain ⟨r0, r1, r2, r3⟩ := FK w6 b6
                obtain ⟨rr0, rr1, rr2, rr3⟩ := FK _ bC
                have g6 := bBr.trans (b6.mono bBr.size)
                have g6a := bBr.trans (bC.mono bBr.size)
                clear ho5 hk5 ho6 hk6
                refine hK.out _ _ (FS _ (by assumption)) (fun hHeld => ?_)
                clear hK K
                refine wpAnyH_take (i := 18) (v := ?_) rfl (by kernel_rfl) (by kernel_rfl) (by kernel_rfl) (fun _ _ _ h => h) (Or.inl ⟨by rfl, ?_⟩) (by assumption) ?_
                rotate_left
                · intro w hSw; go_simp; try with_reducible rfl
                simp only [Act.put, List.setIfInBounds_toArray, List.set_cons_zero, List.set_cons_succ]
                refine wpAnyH_ready (rs := [19]) (by kernel_rfl) (by simp) ?_
                refine AllReadyH.cons rfl (fun K hK => ?_) ?_
                · go_simp
                  refine hK.out _ _ (FS _ (by assumption)) (fun hHeld => ?_)
                  clear hK K
                  refine wpAnyH_ready (rs := [20]) (by kernel_rfl) (by simp) ?_
                  refine AllReadyH.cons rfl (fun K hK => ?_) ?_
                  · refine step_grow rfl (.tmp 18) (.tmp 36) rfl aCom rfl (hol.call bC) rfl rfl (Src.one (tCommit_mk slr slp) _) (by simp) (fun k hk _ => ⟨by omega, fun e => by have := (hol.block k e.symm).2; omega⟩) (by have := HLN.out; simp; omega) (by have := bC.size; omega) ?_
                    intro v7 w7 ho7 hg7
                    obtain ⟨a7, c7, hv7, _, _⟩ := ho7.shape
                    rw [show (L ++ [(rs, ps)]).length = L.length + 1 by simp] at hv7
                    subst hv7
                    have hrow7 : w7.heap[w3.heap.size]? = some (.cells #[.slice al L.length cl, .slice a3 hs.length c3] 33) := (hg7.block _ (by have := bC.size; omega) fun e => by have := (hol.block _ e.symm).1; omega).trans ((bC.block _ (by omega)).trans hrow)
                    have e7 : w7.cell? ⟨w3.heap.size, 0, none⟩ = some (.slice al L.length cl) := by rw [World.cell?, hrow7]; rfl
                    have f7 := frozen_of_row w7 w3.heap.size 0 _ _ hrow7
                    have g7 : Below wB.heap.size wB w7 := g6a.grown hg7 g6a.size fun g hg => by have := (hol.block g hg).1; omega
                    have g8 := g7.setCell (p := ⟨w3.heap.size, 0, none⟩) z3 (.slice a7 (L.length + 1) c7)
                    obtain ⟨fr, fo, fs⟩ := FIN _ w7 a7 c7 bC ho7 hg7
                    clear ho7 hg7 hrow7
                    refine hK.out _ _ (FS _ (by assumption)) (fun hHeld => ?_)
                    clear hK K
                    refine wpAnyH_take (i := 21) (v := ?_) rfl (by kernel_rfl) (by kernel_rfl) (by kernel_rfl) (fun _ _ _ h => h) (Or.inl ⟨by rfl, ?_⟩) (by assumption) ?_
                    rotate_left
                    · intro w hSw; go_simp; try with_reducible rfl
                    simp only [Act.put, List.setIfInBounds_toArray, List.set_cons_zero, List.set_cons_succ]
                    refine wpAnyH_ready (rs := [22]) (by kernel_rfl) (by simp) ?_
                    refine AllReadyH.cons rfl (fun K hK => ?_) ?_
                    · go_simp
                      refine hK.out _ _ (FS _ (by assumption)) (fun hHeld => ?_)
                      clear hK K
                      refine wpAnyH_done (by kernel_rfl) ?_ _
                      go_wp2_with fail
                      go_roundw
                      case rel => exact ⟨j + 1, _, by omega, by go_num, fr, fo, fs⟩
                      case measure => simp [intOf]; omega
                    exact AllReadyH.nil
                  exact AllReadyH.nil
                exact AllReadyH.nil
              exact AllReadyH.nil
            exact AllReadyH.nil
          refine AllReadyH.cons rfl (fun K hK => ?_) ?_
          · go_simp
            refine hK.out _ _ (FS _ (by assumption)) (fun hHeld => ?_)
            clear hK K
            refine wpAnyH_ready (rs := [9]) (by kernel_rfl) (by simp) ?_
            refine AllReadyH.cons rfl (fun K hK => ?_) ?_
            · refine step_clone rfl (.tmp 19) (.tmp 25) rfl aRow rfl (by first | exact HE.out.1 | exact HE.out.2.2.1 | exact HE.out.2.2.2.2.2 | fail) (by simp) (by first | exact bA.drew | exact bAI.drew | exact bIA.drew | exact bA | exact bAI | exact bIA | fail) rfl hrr hln.1 ?_
              intro a5 c5 w5 ho5 b5 hk5
              obtain ⟨q0, q1, q2, q3⟩ := FK w5 b5
              obtain ⟨qq0, qq1, qq2, qq3⟩ := FK _ (b5.alloc b5.size (.cells #[] 3))
              have g5 := bBr.trans (b5.mono bBr.size)
              have g5a := g5.alloc g5.size (.cells #[] 3)
              refine hK.out _ _ (FS _ (by assumption)) (fun hHeld => ?_)
              clear hK K
              refine wpAnyH_ready (rs := [17]) (by kernel_rfl) (by simp) ?_
              refine AllReadyH.cons rfl (fun K hK => ?_) ?_
              · refine step_clone rfl (.tmp 27) (.tmp 33) rfl aInt rfl (by first | exact heap_alloc_new w5 _ | exact hk5 _ _ _ (by decide) HE.out.2.2.2.2.1 | exact hk5 _ _ _ (by decide) HE.out.2.2.2.1 | fail) (by have := b5.size; simp <;> omega) (by first | exact b5 | exact b5.alloc b5.size _ | fail) rfl hpp hln.2 ?_
                intro a6 c6 w6 ho6 b6 hk6
                have ho56 : Own tRow 86 w6 wr.heap.size (fun _ => False) (.slice a5 rs.length c5) rs := (by first | exact (ho5.flatRow (D := fun _ => False)).typed fun g cs h => hk6 g cs _ (by decide) h | exact ((ho5.flatRow (D := fun _ => False)).alloc _).typed fun g cs h => hk6 g cs _ (by decide) h | fail)
                have slr := ho56.sl (D := fun k => wr.heap.size ≤ k) (fun _ h => h.elim) (fun _ h => h)
                have slp := (ho6.flatInt (D := fun _ => False)).sl (D := fun k => wr.heap.size ≤ k) (fun _ h => h.elim) (fun _ h => h)
                have bW := (Below.refl w6.heap.size w6).alloc (Nat.le_refl _) (.cells #[.slice a5 rs.length c5, .slice a6 ps.length c6] 59)
                have bC := b6.trans (bW.mono b6.size)
                have slrC := slr.call bW
                have slpC := slp.call bW
                obtain ⟨r0, r1, r2, r3⟩ := FK w6 b6
                obtain ⟨rr0, rr1, rr2, rr3⟩ := FK _ bC
                have g6 := bBr.trans (b6.mono bBr.size)
                have g6a := bBr.trans (bC.mono bBr.size)
                clear ho5 hk5 ho6 hk6
                refine hK.out _ _ (FS _ (by assumption)) (fun hHeld => ?_)
                clear hK K
                refine wpAnyH_take (i := 18) (v := ?_) rfl (by kernel_rfl) (by kernel_rfl) (by kernel_rfl) (fun _ _ _ h => h) (Or.inl ⟨by rfl, ?_⟩) (by assumption) ?_
                rotate_left
                · intro w hSw; go_simp; try with_reducible rfl
                simp only [Act.put, List.setIfInBounds_toArray, List.set_cons_zero, List.set_cons_succ]
                refine wpAnyH_ready (rs := [19]) (by kernel_rfl) (by simp) ?_
                refine AllReadyH.cons rfl (fun K hK => ?_) ?_
                · go_simp
                  refine hK.out _ _ (FS _ (by assumption)) (fun hHeld => ?_)
                  clear hK K
                  refine wpAnyH_ready (rs := [20]) (by kernel_rfl) (by simp) ?_
                  refine AllReadyH.cons rfl (fun K hK => ?_) ?_
                  · refine step_grow rfl (.tmp 18) (.tmp 36) rfl aCom rfl (hol.call bC) rfl rfl (Src.one (tCommit_mk slr slp) _) (by simp) (fun k hk _ => ⟨by omega, fun e => by have := (hol.block k e.symm).2; omega⟩) (by have := HLN.out; simp; omega) (by have := bC.size; omega) ?_
                    intro v7 w7 ho7 hg7
                    obtain ⟨a7, c7, hv7, _, _⟩ := ho7.shape
                    rw [show (L ++ [(rs, ps)]).length = L.length + 1 by simp] at hv7
                    subst hv7
                    have hrow7 : w7.heap[w3.heap.size]? = some (.cells #[.slice al L.length cl, .slice a3 hs.length c3] 33) := (hg7.block _ (by have := bC.size; omega) fun e => by have := (hol.block _ e.symm).1; omega).trans ((bC.block _ (by omega)).trans hrow)
                    have e7 : w7.cell? ⟨w3.heap.size, 0, none⟩ = some (.slice al L.length cl) := by rw [World.cell?, hrow7]; rfl
                    have f7 := frozen_of_row w7 w3.heap.size 0 _ _ hrow7
                    have g7 : Below wB.heap.size wB w7 := g6a.grown hg7 g6a.size fun g hg => by have := (hol.block g hg).1; omega
                    have g8 := g7.setCell (p := ⟨w3.heap.size, 0, none⟩) z3 (.slice a7 (L.length + 1) c7)
                    obtain ⟨fr, fo, fs⟩ := FIN _ w7 a7 c7 bC ho7 hg7
                    clear ho7 hg7 hrow7
                    refine hK.out _ _ (FS _ (by assumption)) (fun hHeld => ?_)
                    clear hK K
                    refine wpAnyH_take (i := 21) (v := ?_) rfl (by kernel_rfl) (by kernel_rfl) (by kernel_rfl) (fun _ _ _ h => h) (Or.inl ⟨by rfl, ?_⟩) (by assumption) ?_
                    rotate_left
                    · intro w hSw; go_simp; try with_reducible rfl
                    simp only [Act.put, List.setIfInBounds_toArray, List.set_cons_zero, List.set_cons_succ]
                    refine wpAnyH_ready (rs := [22]) (by kernel_rfl) (by simp) ?_
                    refine AllReadyH.cons rfl (fun K hK => ?_) ?_
                    · go_simp
                      refine hK.out _ _ (FS _ (by assumption)) (fun hHeld => ?_)
                      clear hK K
                      refine wpAnyH_done (by kernel_rfl) ?_ _
                      go_wp2_with fail
                      go_roundw
                      case rel => exact ⟨j + 1, _, by omega, by go_num, fr, fo, fs⟩
                      case measure => simp [intOf]; omega
                    exact AllReadyH.nil
                  exact AllReadyH.nil
                exact AllReadyH.nil
              exact AllReadyH.nil
            exact AllReadyH.nil
          exact AllReadyH.nil
        refine AllReadyH.cons rfl (fun K hK => ?_) ?_
        · refine step_clone rfl (.tmp 19) (.tmp 25) rfl aRow rfl (by first | exact HE.out.1 | exact HE.out.2.2.1 | exact HE.out.2.2.2.2.2 | fail) (by simp) (by first | exact bA.drew | exact bAI.drew | exact bIA.drew | exact bA | exact bAI | exact bIA | fail) rfl hrr hln.1 ?_
          intro a5 c5 w5 ho5 b5 hk5
          obtain ⟨q0, q1, q2, q3⟩ := FK w5 b5
          obtain ⟨qq0, qq1, qq2, qq3⟩ := FK _ (b5.alloc b5.size (.cells #[] 3))
          have g5 := bBr.trans (b5.mono bBr.size)
          have g5a := g5.alloc g5.size (.cells #[] 3)
          refine hK.out _ _ (FS _ (by assumption)) (fun hHeld => ?_)
          clear hK K
          refine wpAnyH_ready (rs := [1, 10]) (by kernel_rfl) (by simp) ?_
          refine AllReadyH.cons rfl (fun K hK => ?_) ?_
          · go_simp
            refine hK.out _ _ (FS _ (by assumption)) (fun hHeld => ?_)
            clear hK K
            refine wpAnyH_ready (rs := [10]) (by kernel_rfl) (by simp) ?_
            refine AllReadyH.cons rfl (fun K hK => ?_) ?_
            · go_simp
              refine hK.out _ _ (FS _ (by assumption)) (fun hHeld => ?_)
              clear hK K
              refine wpAnyH_ready (rs := [17]) (by kernel_rfl) (by simp) ?_
              refine AllReadyH.cons rfl (fun K hK => ?_) ?_
              · refine step_clone rfl (.tmp 27) (.tmp 33) rfl aInt rfl (by first | exact heap_alloc_new w5 _ | exact hk5 _ _ _ (by decide) HE.out.2.2.2.2.1 | exact hk5 _ _ _ (by decide) HE.out.2.2.2.1 | fail) (by have := b5.size; simp <;> omega) (by first | exact b5 | exact b5.alloc b5.size _ | fail) rfl hpp hln.2 ?_
                intro a6 c6 w6 ho6 b6 hk6
                have ho56 : Own tRow 86 w6 wr.heap.size (fun _ => False) (.slice a5 rs.length c5) rs := (by first | exact (ho5.flatRow (D := fun _ => False)).typed fun g cs h => hk6 g cs _ (by decide) h | exact ((ho5.flatRow (D := fun _ => False)).alloc _).typed fun g cs h => hk6 g cs _ (by decide) h | fail)
                have slr := ho56.sl (D := fun k => wr.heap.size ≤ k) (fun _ h => h.elim) (fun _ h => h)
                have slp := (ho6.flatInt (D := fun _ => False)).sl (D := fun k => wr.heap.size ≤ k) (fun _ h => h.elim) (fun _ h => h)
                have bW := (Below.refl w6.heap.size w6).alloc (Nat.le_refl _) (.cells #[.slice a5 rs.length c5, .slice a6 ps.length c6] 59)
                have bC := b6.trans (bW.mono b6.size)
                have slrC := slr.call bW
                have slpC := slp.call bW
                obtain ⟨r0, r1, r2, r3⟩ := FK w6 b6
                obtain ⟨rr0, rr1, rr2, rr3⟩ := FK _ bC
                have g6 := bBr.trans (b6.mono bBr.size)
                have g6a := bBr.trans (bC.mono bBr.size)
                clear ho5 hk5 ho6 hk6
                refine hK.out _ _ (FS _ (by assumption)) (fun hHeld => ?_)
                clear hK K
                refine wpAnyH_take (i := 18) (v := ?_) rfl (by kernel_rfl) (by kernel_rfl) (by kernel_rfl) (fun _ _ _ h => h) (Or.inl ⟨by rfl, ?_⟩) (by assumption) ?_
                rotate_left
                · intro w hSw; go_simp; try with_reducible rfl
                simp only [Act.put, List.setIfInBounds_toArray, List.set_cons_zero, List.set_cons_succ]
                refine wpAnyH_ready (rs := [19]) (by kernel_rfl) (by simp) ?_
                refine AllReadyH.cons rfl (fun K hK => ?_) ?_
                · go_simp
                  refine hK.out _ _ (FS _ (by assumption)) (fun hHeld => ?_)
                  clear hK K
                  refine wpAnyH_ready (rs := [20]) (by kernel_rfl) (by simp) ?_
                  refine AllReadyH.cons rfl (fun K hK => ?_) ?_
                  · refine step_grow rfl (.tmp 18) (.tmp 36) rfl aCom rfl (hol.call bC) rfl rfl (Src.one (tCommit_mk slr slp) _) (by simp) (fun k hk _ => ⟨by omega, fun e => by have := (hol.block k e.symm).2; omega⟩) (by have := HLN.out; simp; omega) (by have := bC.size; omega) ?_
                    intro v7 w7 ho7 hg7
                    obtain ⟨a7, c7, hv7, _, _⟩ := ho7.shape
                    rw [show (L ++ [(rs, ps)]).length = L.length + 1 by simp] at hv7
                    subst hv7
                    have hrow7 : w7.heap[w3.heap.size]? = some (.cells #[.slice al L.length cl, .slice a3 hs.length c3] 33) := (hg7.block _ (by have := bC.size; omega) fun e => by have := (hol.block _ e.symm).1; omega).trans ((bC.block _ (by omega)).trans hrow)
                    have e7 : w7.cell? ⟨w3.heap.size, 0, none⟩ = some (.slice al L.length cl) := by rw [World.cell?, hrow7]; rfl
                    have f7 := frozen_of_row w7 w3.heap.size 0 _ _ hrow7
                    have g7 : Below wB.heap.size wB w7 := g6a.grown hg7 g6a.size fun g hg => by have := (hol.block g hg).1; omega
                    have g8 := g7.setCell (p := ⟨w3.heap.size, 0, none⟩) z3 (.slice a7 (L.length + 1) c7)
                    obtain ⟨fr, fo, fs⟩ := FIN _ w7 a7 c7 bC ho7 hg7
                    clear ho7 hg7 hrow7
                    refine hK.out _ _ (FS _ (by assumption)) (fun hHeld => ?_)
                    clear hK K
                    refine wpAnyH_take (i := 21) (v := ?_) rfl (by kernel_rfl) (by kernel_rfl) (by kernel_rfl) (fun _ _ _ h => h) (Or.inl ⟨by rfl, ?_⟩) (by assumption) ?_
                    rotate_left
                    · intro w hSw; go_simp; try with_reducible rfl
                    simp only [Act.put, List.setIfInBounds_toArray, List.set_cons_zero, List.set_cons_succ]
                    refine wpAnyH_ready (rs := [22]) (by kernel_rfl) (by simp) ?_
                    refine AllReadyH.cons rfl (fun K hK => ?_) ?_
                    · go_simp
                      refine hK.out _ _ (FS _ (by assumption)) (fun hHeld => ?_)
                      clear hK K
                      refine wpAnyH_done (by kernel_rfl) ?_ _
                      go_wp2_with fail
                      go_roundw
                      case rel => exact ⟨j + 1, _, by omega, by go_num, fr, fo, fs⟩
                      case measure => simp [intOf]; omega
                    exact AllReadyH.nil
                  exact AllReadyH.nil
                exact AllReadyH.nil
              exact AllReadyH.nil
            exact AllReadyH.nil
          refine AllReadyH.cons rfl (fun K hK => ?_) ?_
          · go_simp
            refine hK.out _ _ (FS _ (by assumption)) (fun hHeld => ?_)
            clear hK K
            refine wpAnyH_ready (rs := [1, 17]) (by kernel_rfl) (by simp) ?_
            refine AllReadyH.cons rfl (fun K hK => ?_) ?_
            · go_simp
              refine hK.out _ _ (FS _ (by assumption)) (fun hHeld => ?_)
              clear hK K
              refine wpAnyH_ready (rs := [17]) (by kernel_rfl) (by simp) ?_
              refine AllReadyH.cons rfl (fun K hK => ?_) ?_
              · refine step_clone rfl (.tmp 27) (.tmp 33) rfl aInt rfl (by first | exact heap_alloc_new w5 _ | exact hk5 _ _ _ (by decide) HE.out.2.2.2.2.1 | exact hk5 _ _ _ (by decide) HE.out.2.2.2.1 | fail) (by have := b5.size; simp <;> omega) (by first | exact b5 | exact b5.alloc b5.size _ | fail) rfl hpp hln.2 ?_
                intro a6 c6 w6 ho6 b6 hk6
                have ho56 : Own tRow 86 w6 wr.heap.size (fun _ => False) (.slice a5 rs.length c5) rs := (by first | exact (ho5.flatRow (D := fun _ => False)).typed fun g cs h => hk6 g cs _ (by decide) h | exact ((ho5.flatRow (D := fun _ => False)).alloc _).typed fun g cs h => hk6 g cs _ (by decide) h | fail)
                have slr := ho56.sl (D := fun k => wr.heap.size ≤ k) (fun _ h => h.elim) (fun _ h => h)
                have slp := (ho6.flatInt (D := fun _ => False)).sl (D := fun k => wr.heap.size ≤ k) (fun _ h => h.elim) (fun _ h => h)
                have bW := (Below.refl w6.heap.size w6).alloc (Nat.le_refl _) (.cells #[.slice a5 rs.length c5, .slice a6 ps.length c6] 59)
                have bC := b6.trans (bW.mono b6.size)
                have slrC := slr.call bW
                have slpC := slp.call bW
                obtain ⟨r0, r1, r2, r3⟩ := FK w6 b6
                obtain ⟨rr0, rr1, rr2, rr3⟩ := FK _ bC
                have g6 := bBr.trans (b6.mono bBr.size)
                have g6a := bBr.trans (bC.mono bBr.size)
                clear ho5 hk5 ho6 hk6
                refine hK.out _ _ (FS _ (by assumption)) (fun hHeld => ?_)
                clear hK K
                refine wpAnyH_take (i := 18) (v := ?_) rfl (by kernel_rfl) (by kernel_rfl) (by kernel_rfl) (fun _ _ _ h => h) (Or.inl ⟨by rfl, ?_⟩) (by assumption) ?_
                rotate_left
                · intro w hSw; go_simp; try with_reducible rfl
                simp only [Act.put, List.setIfInBounds_toArray, List.set_cons_zero, List.set_cons_succ]
                refine wpAnyH_ready (rs := [19]) (by kernel_rfl) (by simp) ?_
                refine AllReadyH.cons rfl (fun K hK => ?_) ?_
                · go_simp
                  refine hK.out _ _ (FS _ (by assumption)) (fun hHeld => ?_)
                  clear hK K
                  refine wpAnyH_ready (rs := [20]) (by kernel_rfl) (by simp) ?_
                  refine AllReadyH.cons rfl (fun K hK => ?_) ?_
                  · refine step_grow rfl (.tmp 18) (.tmp 36) rfl aCom rfl (hol.call bC) rfl rfl (Src.one (tCommit_mk slr slp) _) (by simp) (fun k hk _ => ⟨by omega, fun e => by have := (hol.block k e.symm).2; omega⟩) (by have := HLN.out; simp; omega) (by have := bC.size; omega) ?_
                    intro v7 w7 ho7 hg7
                    obtain ⟨a7, c7, hv7, _, _⟩ := ho7.shape
                    rw [show (L ++ [(rs, ps)]).length = L.length + 1 by simp] at hv7
                    subst hv7
                    have hrow7 : w7.heap[w3.heap.size]? = some (.cells #[.slice al L.length cl, .slice a3 hs.length c3] 33) := (hg7.block _ (by have := bC.size; omega) fun e => by have := (hol.block _ e.symm).1; omega).trans ((bC.block _ (by omega)).trans hrow)
                    have e7 : w7.cell? ⟨w3.heap.size, 0, none⟩ = some (.slice al L.length cl) := by rw [World.cell?, hrow7]; rfl
                    have f7 := frozen_of_row w7 w3.heap.size 0 _ _ hrow7
                    have g7 : Below wB.heap.size wB w7 := g6a.grown hg7 g6a.size fun g hg => by have := (hol.block g hg).1; omega
                    have g8 := g7.setCell (p := ⟨w3.heap.size, 0, none⟩) z3 (.slice a7 (L.length + 1) c7)
                    obtain ⟨fr, fo, fs⟩ := FIN _ w7 a7 c7 bC ho7 hg7
                    clear ho7 hg7 hrow7
                    refine hK.out _ _ (FS _ (by assumption)) (fun hHeld => ?_)
                    clear hK K
                    refine wpAnyH_take (i := 21) (v := ?_) rfl (by kernel_rfl) (by kernel_rfl) (by kernel_rfl) (fun _ _ _ h => h) (Or.inl ⟨by rfl, ?_⟩) (by assumption) ?_
                    rotate_left
                    · intro w hSw; go_simp; try with_reducible rfl
                    simp only [Act.put, List.setIfInBounds_toArray, List.set_cons_zero, List.set_cons_succ]
                    refine wpAnyH_ready (rs := [22]) (by kernel_rfl) (by simp) ?_
                    refine AllReadyH.cons rfl (fun K hK => ?_) ?_
                    · go_simp
                      refine hK.out _ _ (FS _ (by assumption)) (fun hHeld => ?_)
                      clear hK K
                      refine wpAnyH_done (by kernel_rfl) ?_ _
                      go_wp2_with fail
                      go_roundw
                      case rel => exact ⟨j + 1, _, by omega, by go_num, fr, fo, fs⟩
                      case measure => simp [intOf]; omega
                    exact AllReadyH.nil
                  exact AllReadyH.nil
                exact AllReadyH.nil
              exact AllReadyH.nil
            refine AllReadyH.cons rfl (fun K hK => ?_) ?_
            · refine step_clone rfl (.tmp 27) (.tmp 33) rfl aInt rfl (by first | exact heap_alloc_new w5 _ | exact hk5 _ _ _ (by decide) HE.out.2.2.2.2.1 | exact hk5 _ _ _ (by decide) HE.out.2.2.2.1 | fail) (by have := b5.size; simp <;> omega) (by first | exact b5 | exact b5.alloc b5.size _ | fail) rfl hpp hln.2 ?_
              intro a6 c6 w6 ho6 b6 hk6
              have ho56 : Own tRow 86 w6 wr.heap.size (fun _ => False) (.slice a5 rs.length c5) rs := (by first | exact (ho5.flatRow (D := fun _ => False)).typed fun g cs h => hk6 g cs _ (by decide) h | exact ((ho5.flatRow (D := fun _ => False)).alloc _).typed fun g cs h => hk6 g cs _ (by decide) h | fail)
              have slr := ho56.sl (D := fun k => wr.heap.size ≤ k) (fun _ h => h.elim) (fun _ h => h)
              have slp := (ho6.flatInt (D := fun _ => False)).sl (D := fun k => wr.heap.size ≤ k) (fun _ h => h.elim) (fun _ h => h)
              have bW := (Below.refl w6.heap.size w6).alloc (Nat.le_refl _) (.cells #[.slice a5 rs.length c5, .slice a6 ps.length c6] 59)
              have bC := b6.trans (bW.mono b6.size)
              have slrC := slr.call bW
              have slpC := slp.call bW
              obtain ⟨r0, r1, r2, r3⟩ := FK w6 b6
              obtain ⟨rr0, rr1, rr2, rr3⟩ := FK _ bC
              have g6 := bBr.trans (b6.mono bBr.size)
              have g6a := bBr.trans (bC.mono bBr.size)
              clear ho5 hk5 ho6 hk6
              refine hK.out _ _ (FS _ (by assumption)) (fun hHeld => ?_)
              clear hK K
              refine wpAnyH_take (i := 18) (v := ?_) rfl (by kernel_rfl) (by kernel_rfl) (by kernel_rfl) (fun _ _ _ h => h) (Or.inl ⟨by rfl, ?_⟩) (by assumption) ?_
              rotate_left
              · intro w hSw; go_simp; try with_reducible rfl
              simp only [Act.put, List.setIfInBounds_toArray, List.set_cons_zero, List.set_cons_succ]
              refine wpAnyH_ready (rs := [1, 19]) (by kernel_rfl) (by simp) ?_
              refine AllReadyH.cons rfl (fun K hK => ?_) ?_
              · go_simp
                refine hK.out _ _ (FS _ (by assumption)) (fun hHeld => ?_)
                clear hK K
                refine wpAnyH_ready (rs := [19]) (by kernel_rfl) (by simp) ?_
                refine AllReadyH.cons rfl (fun K hK => ?_) ?_
                · go_simp
                  refine hK.out _ _ (FS _ (by assumption)) (fun hHeld => ?_)
                  clear hK K
                  refine wpAnyH_ready (rs := [20]) (by kernel_rfl) (by simp) ?_
                  refine AllReadyH.cons rfl (fun K hK => ?_) ?_
                  · refine step_grow rfl (.tmp 18) (.tmp 36) rfl aCom rfl (hol.call bC) rfl rfl (Src.one (tCommit_mk slr slp) _) (by simp) (fun k hk _ => ⟨by omega, fun e => by have := (hol.block k e.symm).2; omega⟩) (by have := HLN.out; simp; omega) (by have := bC.size; omega) ?_
                    intro v7 w7 ho7 hg7
                    obtain ⟨a7, c7, hv7, _, _⟩ := ho7.shape
                    rw [show (L ++ [(rs, ps)]).length = L.length + 1 by simp] at hv7
                    subst hv7
                    have hrow7 : w7.heap[w3.heap.size]? = some (.cells #[.slice al L.length cl, .slice a3 hs.length c3] 33) := (hg7.block _ (by have := bC.size; omega) fun e => by have := (hol.block _ e.symm).1; omega).trans ((bC.block _ (by omega)).trans hrow)
                    have e7 : w7.cell? ⟨w3.heap.size, 0, none⟩ = some (.slice al L.length cl) := by rw [World.cell?, hrow7]; rfl
                    have f7 := frozen_of_row w7 w3.heap.size 0 _ _ hrow7
                    have g7 : Below wB.heap.size wB w7 := g6a.grown hg7 g6a.size fun g hg => by have := (hol.block g hg).1; omega
                    have g8 := g7.setCell (p := ⟨w3.heap.size, 0, none⟩) z3 (.slice a7 (L.length + 1) c7)
                    obtain ⟨fr, fo, fs⟩ := FIN _ w7 a7 c7 bC ho7 hg7
                    clear ho7 hg7 hrow7
                    refine hK.out _ _ (FS _ (by assumption)) (fun hHeld => ?_)
                    clear hK K
                    refine wpAnyH_take (i := 21) (v := ?_) rfl (by kernel_rfl) (by kernel_rfl) (by kernel_rfl) (fun _ _ _ h => h) (Or.inl ⟨by rfl, ?_⟩) (by assumption) ?_
                    rotate_left
                    · intro w hSw; go_simp; try with_reducible rfl
                    simp only [Act.put, List.setIfInBounds_toArray, List.set_cons_zero, List.set_cons_succ]
                    refine wpAnyH_ready (rs := [22]) (by kernel_rfl) (by simp) ?_
                    refine AllReadyH.cons rfl (fun K hK => ?_) ?_
                    · go_simp
                      refine hK.out _ _ (FS _ (by assumption)) (fun hHeld => ?_)
                      clear hK K
                      refine wpAnyH_done (by kernel_rfl) ?_ _
                      go_wp2_with fail
                      go_roundw
                      case rel => exact ⟨j + 1, _, by omega, by go_num, fr, fo, fs⟩
                      case measure => simp [intOf]; omega
                    exact AllReadyH.nil
                  exact AllReadyH.nil
                exact AllReadyH.nil
              refine AllReadyH.cons rfl (fun K hK => ?_) ?_
              · go_simp
                refine hK.out _ _ (FS _ (by assumption)) (fun hHeld => ?_)
                clear hK K
                refine wpAnyH_ready (rs := [1]) (by kernel_rfl) (by simp) ?_
                refine AllReadyH.cons rfl (fun K hK => ?_) ?_
                · go_simp
                  refine hK.out _ _ (FS _ (by assumption)) (fun hHeld => ?_)
                  clear hK K
                  refine wpAnyH_ready (rs := [20]) (by kernel_rfl) (by simp) ?_
                  refine AllReadyH.cons rfl (fun K hK => ?_) ?_
                  · refine step_grow rfl (.tmp 18) (.tmp 36) rfl aCom rfl (hol.call bC) rfl rfl (Src.one (tCommit_mk slr slp) _) (by simp) (fun k hk _ => ⟨by omega, fun e => by have := (hol.block k e.symm).2; omega⟩) (by have := HLN.out; simp; omega) (by have := bC.size; omega) ?_
                    intro v7 w7 ho7 hg7
                    obtain ⟨a7, c7, hv7, _, _⟩ := ho7.shape
                    rw [show (L ++ [(rs, ps)]).length = L.length + 1 by simp] at hv7
                    subst hv7
                    have hrow7 : w7.heap[w3.heap.size]? = some (.cells #[.slice al L.length cl, .slice a3 hs.length c3] 33) := (hg7.block _ (by have := bC.size; omega) fun e => by have := (hol.block _ e.symm).1; omega).trans ((bC.block _ (by omega)).trans hrow)
                    have e7 : w7.cell? ⟨w3.heap.size, 0, none⟩ = some (.slice al L.length cl) := by rw [World.cell?, hrow7]; rfl
                    have f7 := frozen_of_row w7 w3.heap.size 0 _ _ hrow7
                    have g7 : Below wB.heap.size wB w7 := g6a.grown hg7 g6a.size fun g hg => by have := (hol.block g hg).1; omega
                    have g8 := g7.setCell (p := ⟨w3.heap.size, 0, none⟩) z3 (.slice a7 (L.length + 1) c7)
                    obtain ⟨fr, fo, fs⟩ := FIN _ w7 a7 c7 bC ho7 hg7
                    clear ho7 hg7 hrow7
                    refine hK.out _ _ (FS _ (by assumption)) (fun hHeld => ?_)
                    clear hK K
                    refine wpAnyH_take (i := 21) (v := ?_) rfl (by kernel_rfl) (by kernel_rfl) (by kernel_rfl) (fun _ _ _ h => h) (Or.inl ⟨by rfl, ?_⟩) (by assumption) ?_
                    rotate_left
                    · intro w hSw; go_simp; try with_reducible rfl
                    simp only [Act.put, List.setIfInBounds_toArray, List.set_cons_zero, List.set_cons_succ]
                    refine wpAnyH_ready (rs := [22]) (by kernel_rfl) (by simp) ?_
                    refine AllReadyH.cons rfl (fun K hK => ?_) ?_
                    · go_simp
                      refine hK.out _ _ (FS _ (by assumption)) (fun hHeld => ?_)
                      clear hK K
                      refine wpAnyH_done (by kernel_rfl) ?_ _
                      go_wp2_with fail
                      go_roundw
                      case rel => exact ⟨j + 1, _, by omega, by go_num, fr, fo, fs⟩
                      case measure => simp [intOf]; omega
                    exact AllReadyH.nil
                  exact AllReadyH.nil
                exact AllReadyH.nil
              exact AllReadyH.nil
            exact AllReadyH.nil
          exact AllReadyH.nil
        refine AllReadyH.cons rfl (fun K hK => ?_) ?_
        · go_simp
          refine hK.out _ _ (FS _ (by assumption)) (fun hHeld => ?_)
          clear hK K
          refine wpAnyH_ready (rs := [1, 9]) (by kernel_rfl) (by simp) ?_
          refine AllReadyH.cons rfl (fun K hK => ?_) ?_
          · go_simp
            refine hK.out _ _ (FS _ (by assumption)) (fun hHeld => ?_)
            clear hK K
            refine wpAnyH_ready (rs := [9]) (by kernel_rfl) (by simp) ?_
            refine AllReadyH.cons rfl (fun K hK => ?_) ?_
            · refine step_clone rfl (.tmp 19) (.tmp 25) rfl aRow rfl (by first | exact HE.out.1 | exact HE.out.2.2.1 | exact HE.out.2.2.2.2.2 | fail) (by simp) (by first | exact bA.drew | exact bAI.drew | exact bIA.drew | exact bA | exact bAI | exact bIA | fail) rfl hrr hln.1 ?_
              intro a5 c5 w5 ho5 b5 hk5
              obtain ⟨q0, q1, q2, q3⟩ := FK w5 b5
              obtain ⟨qq0, qq1, qq2, qq3⟩ := FK _ (b5.alloc b5.size (.cells #[] 3))
              have g5 := bBr.trans (b5.mono bBr.size)
              have g5a := g5.alloc g5.size (.cells #[] 3)
              refine hK.out _ _ (FS _ (by assumption)) (fun hHeld => ?_)
              clear hK K
              refine wpAnyH_ready (rs := [17]) (by kernel_rfl) (by simp) ?_
              refine AllReadyH.cons rfl (fun K hK => ?_) ?_
              · refine step_clone rfl (.tmp 27) (.tmp 33) rfl aInt rfl (by first | exact heap_alloc_new w5 _ | exact hk5 _ _ _ (by decide) HE.out.2.2.2.2.1 | exact hk5 _ _ _ (by decide) HE.out.2.2.2.1 | fail) (by have := b5.size; simp <;> omega) (by first | exact b5 | exact b5.alloc b5.size _ | fail) rfl hpp hln.2 ?_
                intro a6 c6 w6 ho6 b6 hk6
                have ho56 : Own tRow 86 w6 wr.heap.size (fun _ => False) (.slice a5 rs.length c5) rs := (by first | exact (ho5.flatRow (D := fun _ => False)).typed fun g cs h => hk6 g cs _ (by decide) h | exact ((ho5.flatRow (D := fun _ => False)).alloc _).typed fun g cs h => hk6 g cs _ (by decide) h | fail)
                have slr := ho56.sl (D := fun k => wr.heap.size ≤ k) (fun _ h => h.elim) (fun _ h => h)
                have slp := (ho6.flatInt (D := fun _ => False)).sl (D := fun k => wr.heap.size ≤ k) (fun _ h => h.elim) (fun _ h => h)
                have bW := (Below.refl w6.heap.size w6).alloc (Nat.le_refl _) (.cells #[.slice a5 rs.length c5, .slice a6 ps.length c6] 59)
                have bC := b6.trans (bW.mono b6.size)
                have slrC := slr.call bW
                have slpC := slp.call bW
                obtain ⟨r0, r1, r2, r3⟩ := FK w6 b6
                obtain ⟨rr0, rr1, rr2, rr3⟩ := FK _ bC
                have g6 := bBr.trans (b6.mono bBr.size)
                have g6a := bBr.trans (bC.mono bBr.size)
                clear ho5 hk5 ho6 hk6
                refine hK.out _ _ (FS _ (by assumption)) (fun hHeld => ?_)
                clear hK K
                refine wpAnyH_take (i := 18) (v := ?_) rfl (by kernel_rfl) (by kernel_rfl) (by kernel_rfl) (fun _ _ _ h => h) (Or.inl ⟨by rfl, ?_⟩) (by assumption) ?_
                rotate_left
                · intro w hSw; go_simp; try with_reducible rfl
                simp only [Act.put, List.setIfInBounds_toArray, List.set_cons_zero, List.set_cons_succ]
                refine wpAnyH_ready (rs := [19]) (by kernel_rfl) (by simp) ?_
                refine AllReadyH.cons rfl (fun K hK => ?_) ?_
                · go_simp
                  refine hK.out _ _ (FS _ (by assumption)) (fun hHeld => ?_)
                  clear hK K
                  refine wpAnyH_ready (rs := [20]) (by kernel_rfl) (by simp) ?_
                  refine AllReadyH.cons rfl (fun K hK => ?_) ?_
                  · refine step_grow rfl (.tmp 18) (.tmp 36) rfl aCom rfl (hol.call bC) rfl rfl (Src.one (tCommit_mk slr slp) _) (by simp) (fun k hk _ => ⟨by omega, fun e => by have := (hol.block k e.symm).2; omega⟩) (by have := HLN.out; simp; omega) (by have := bC.size; omega) ?_
                    intro v7 w7 ho7 hg7
                    obtain ⟨a7, c7, hv7, _, _⟩ := ho7.shape
                    rw [show (L ++ [(rs, ps)]).length = L.length + 1 by simp] at hv7
                    subst hv7
                    have hrow7 : w7.heap[w3.heap.size]? = some (.cells #[.slice al L.length cl, .slice a3 hs.length c3] 33) := (hg7.block _ (by have := bC.size; omega) fun e => by have := (hol.block _ e.symm).1; omega).trans ((bC.block _ (by omega)).trans hrow)
                    have e7 : w7.cell? ⟨w3.heap.size, 0, none⟩ = some (.slice al L.length cl) := by rw [World.cell?, hrow7]; rfl
                    have f7 := frozen_of_row w7 w3.heap.size 0 _ _ hrow7
                    have g7 : Below wB.heap.size wB w7 := g6a.grown hg7 g6a.size fun g hg => by have := (hol.block g hg).1; omega
                    have g8 := g7.setCell (p := ⟨w3.heap.size, 0, none⟩) z3 (.slice a7 (L.length + 1) c7)
                    obtain ⟨fr, fo, fs⟩ := FIN _ w7 a7 c7 bC ho7 hg7
                    clear ho7 hg7 hrow7
                    refine hK.out _ _ (FS _ (by assumption)) (fun hHeld => ?_)
                    clear hK K
                    refine wpAnyH_take (i := 21) (v := ?_) rfl (by kernel_rfl) (by kernel_rfl) (by kernel_rfl) (fun _ _ _ h => h) (Or.inl ⟨by rfl, ?_⟩) (by assumption) ?_
                    rotate_left
                    · intro w hSw; go_simp; try with_reducible rfl
                    simp only [Act.put, List.setIfInBounds_toArray, List.set_cons_zero, List.set_cons_succ]
                    refine wpAnyH_ready (rs := [22]) (by kernel_rfl) (by simp) ?_
                    refine AllReadyH.cons rfl (fun K hK => ?_) ?_
                    · go_simp
                      refine hK.out _ _ (FS _ (by assumption)) (fun hHeld => ?_)
                      clear hK K
                      refine wpAnyH_done (by kernel_rfl) ?_ _
                      go_wp2_with fail
                      go_roundw
                      case rel => exact ⟨j + 1, _, by omega, by go_num, fr, fo, fs⟩
                      case measure => simp [intOf]; omega
                    exact AllReadyH.nil
                  exact AllReadyH.nil
                exact AllReadyH.nil
              exact AllReadyH.nil
            exact AllReadyH.nil
          refine AllReadyH.cons rfl (fun K hK => ?_) ?_
          · refine step_clone rfl (.tmp 19) (.tmp 25) rfl aRow rfl (by first | exact HE.out.1 | exact HE.out.2.2.1 | exact HE.out.2.2.2.2.2 | fail) (by simp) (by first | exact bA.drew | exact bAI.drew | exact bIA.drew | exact bA | exact bAI | exact bIA | fail) rfl hrr hln.1 ?_
            intro a5 c5 w5 ho5 b5 hk5
            obtain ⟨q0, q1, q2, q3⟩ := FK w5 b5
            obtain ⟨qq0, qq1, qq2, qq3⟩ := FK _ (b5.alloc b5.size (.cells #[] 3))
            have g5 := bBr.trans (b5.mono bBr.size)
            have g5a := g5.alloc g5.size (.cells #[] 3)
            refine hK.out _ _ (FS _ (by assumption)) (fun hHeld => ?_)
            clear hK K
            refine wpAnyH_ready (rs := [1, 17]) (by kernel_rfl) (by simp) ?_
            refine AllReadyH.cons rfl (fun K hK => ?_) ?_
            · go_simp
              refine hK.out _ _ (FS _ (by assumption)) (fun hHeld => ?_)
              clear hK K
              refine wpAnyH_ready (rs := [17]) (by kernel_rfl) (by simp) ?_
              refine AllReadyH.cons rfl (fun K hK => ?_) ?_
              · refine step_clone rfl (.tmp 27) (.tmp 33) rfl aInt rfl (by first | exact heap_alloc_new w5 _ | exact hk5 _ _ _ (by decide) HE.out.2.2.2.2.1 | exact hk5 _ _ _ (by decide) HE.out.2.2.2.1 | fail) (by have := b5.size; simp <;> omega) (by first | exact b5 | exact b5.alloc b5.size _ | fail) rfl hpp hln.2 ?_
                intro a6 c6 w6 ho6 b6 hk6
                have ho56 : Own tRow 86 w6 wr.heap.size (fun _ => False) (.slice a5 rs.length c5) rs := (by first | exact (ho5.flatRow (D := fun _ => False)).typed fun g cs h => hk6 g cs _ (by decide) h | exact ((ho5.flatRow (D := fun _ => False)).alloc _).typed fun g cs h => hk6 g cs _ (by decide) h | fail)
                have slr := ho56.sl (D := fun k => wr.heap.size ≤ k) (fun _ h => h.elim) (fun _ h => h)
                have slp := (ho6.flatInt (D := fun _ => False)).sl (D := fun k => wr.heap.size ≤ k) (fun _ h => h.elim) (fun _ h => h)
                have bW := (Below.refl w6.heap.size w6).alloc (Nat.le_refl _) (.cells #[.slice a5 rs.length c5, .slice a6 ps.length c6] 59)
                have bC := b6.trans (bW.mono b6.size)
                have slrC := slr.call bW
                have slpC := slp.call bW
                obtain ⟨r0, r1, r2, r3⟩ := FK w6 b6
                obtain ⟨rr0, rr1, rr2, rr3⟩ := FK _ bC
                have g6 := bBr.trans (b6.mono bBr.size)
                have g6a := bBr.trans (bC.mono bBr.size)
                clear ho5 hk5 ho6 hk6
                refine hK.out _ _ (FS _ (by assumption)) (fun hHeld => ?_)
                clear hK K
                refine wpAnyH_take (i := 18) (v := ?_) rfl (by kernel_rfl) (by kernel_rfl) (by kernel_rfl) (fun _ _ _ h => h) (Or.inl ⟨by rfl, ?_⟩) (by assumption) ?_
                rotate_left
                · intro w hSw; go_simp; try with_reducible rfl
                simp only [Act.put, List.setIfInBounds_toArray, List.set_cons_zero, List.set_cons_succ]
                refine wpAnyH_ready (rs := [19]) (by kernel_rfl) (by simp) ?_
                refine AllReadyH.cons rfl (fun K hK => ?_) ?_
                · go_simp
                  refine hK.out _ _ (FS _ (by assumption)) (fun hHeld => ?_)
                  clear hK K
                  refine wpAnyH_ready (rs := [20]) (by kernel_rfl) (by simp) ?_
                  refine AllReadyH.cons rfl (fun K hK => ?_) ?_
                  · refine step_grow rfl (.tmp 18) (.tmp 36) rfl aCom rfl (hol.call bC) rfl rfl (Src.one (tCommit_mk slr slp) _) (by simp) (fun k hk _ => ⟨by omega, fun e => by have := (hol.block k e.symm).2; omega⟩) (by have := HLN.out; simp; omega) (by have := bC.size; omega) ?_
                    intro v7 w7 ho7 hg7
                    obtain ⟨a7, c7, hv7, _, _⟩ := ho7.shape
                    rw [show (L ++ [(rs, ps)]).length = L.length + 1 by simp] at hv7
                    subst hv7
                    have hrow7 : w7.heap[w3.heap.size]? = some (.cells #[.slice al L.length cl, .slice a3 hs.length c3] 33) := (hg7.block _ (by have := bC.size; omega) fun e => by have := (hol.block _ e.symm).1; omega).trans ((bC.block _ (by omega)).trans hrow)
                    have e7 : w7.cell? ⟨w3.heap.size, 0, none⟩ = some (.slice al L.length cl) := by rw [World.cell?, hrow7]; rfl
                    have f7 := frozen_of_row w7 w3.heap.size 0 _ _ hrow7
                    have g7 : Below wB.heap.size wB w7 := g6a.grown hg7 g6a.size fun g hg => by have := (hol.block g hg).1; omega
                    have g8 := g7.setCell (p := ⟨w3.heap.size, 0, none⟩) z3 (.slice a7 (L.length + 1) c7)
                    obtain ⟨fr, fo, fs⟩ := FIN _ w7 a7 c7 bC ho7 hg7
                    clear ho7 hg7 hrow7
                    refine hK.out _ _ (FS _ (by assumption)) (fun hHeld => ?_)
                    clear hK K
                    refine wpAnyH_take (i := 21) (v := ?_) rfl (by kernel_rfl) (by kernel_rfl) (by kernel_rfl) (fun _ _ _ h => h) (Or.inl ⟨by rfl, ?_⟩) (by assumption) ?_
                    rotate_left
                    · intro w hSw; go_simp; try with_reducible rfl
                    simp only [Act.put, List.setIfInBounds_toArray, List.set_cons_zero, List.set_cons_succ]
                    refine wpAnyH_ready (rs := [22]) (by kernel_rfl) (by simp) ?_
                    refine AllReadyH.cons rfl (fun K hK => ?_) ?_
                    · go_simp
                      refine hK.out _ _ (FS _ (by assumption)) (fun hHeld => ?_)
                      clear hK K
                      refine wpAnyH_done (by kernel_rfl) ?_ _
                      go_wp2_with fail
                      go_roundw
                      case rel => exact ⟨j + 1, _, by omega, by go_num, fr, fo, fs⟩
                      case measure => simp [intOf]; omega
                    exact AllReadyH.nil
                  exact AllReadyH.nil
                exact AllReadyH.nil
              exact AllReadyH.nil
            refine AllReadyH.cons rfl (fun K hK => ?_) ?_
            · refine step_clone rfl (.tmp 27) (.tmp 33) rfl aInt rfl (by first | exact heap_alloc_new w5 _ | exact hk5 _ _ _ (by decide) HE.out.2.2.2.2.1 | exact hk5 _ _ _ (by decide) HE.out.2.2.2.1 | fail) (by have := b5.size; simp <;> omega) (by first | exact b5 | exact b5.alloc b5.size _ | fail) rfl hpp hln.2 ?_
              intro a6 c6 w6 ho6 b6 hk6
              have ho56 : Own tRow 86 w6 wr.heap.size (fun _ => False) (.slice a5 rs.length c5) rs := (by first | exact (ho5.flatRow (D := fun _ => False)).typed fun g cs h => hk6 g cs _ (by decide) h | exact ((ho5.flatRow (D := fun _ => False)).alloc _).typed fun g cs h => hk6 g cs _ (by decide) h | fail)
              have slr := ho56.sl (D := fun k => wr.heap.size ≤ k) (fun _ h => h.elim) (fun _ h => h)
              have slp := (ho6.flatInt (D := fun _ => False)).sl (D := fun k => wr.heap.size ≤ k) (fun _ h => h.elim) (fun _ h => h)
              have bW := (Below.refl w6.heap.size w6).alloc (Nat.le_refl _) (.cells #[.slice a5 rs.length c5, .slice a6 ps.length c6] 59)
              have bC := b6.trans (bW.mono b6.size)
              have slrC := slr.call bW
              have slpC := slp.call bW
              obtain ⟨r0, r1, r2, r3⟩ := FK w6 b6
              obtain ⟨rr0, rr1, rr2, rr3⟩ := FK _ bC
              have g6 := bBr.trans (b6.mono bBr.size)
              have g6a := bBr.trans (bC.mono bBr.size)
              clear ho5 hk5 ho6 hk6
              refine hK.out _ _ (FS _ (by assumption)) (fun hHeld => ?_)
              clear hK K
              refine wpAnyH_take (i := 18) (v := ?_) rfl (by kernel_rfl) (by kernel_rfl) (by kernel_rfl) (fun _ _ _ h => h) (Or.inl ⟨by rfl, ?_⟩) (by assumption) ?_
              rotate_left
              · intro w hSw; go_simp; try with_reducible rfl
              simp only [Act.put, List.setIfInBounds_toArray, List.set_cons_zero, List.set_cons_succ]
              refine wpAnyH_ready (rs := [1, 19]) (by kernel_rfl) (by simp) ?_
              refine AllReadyH.cons rfl (fun K hK => ?_) ?_
              · go_simp
                refine hK.out _ _ (FS _ (by assumption)) (fun hHeld => ?_)
                clear hK K
                refine wpAnyH_ready (rs := [19]) (by kernel_rfl) (by simp) ?_
                refine AllReadyH.cons rfl (fun K hK => ?_) ?_
                · go_simp
                  refine hK.out _ _ (FS _ (by assumption)) (fun hHeld => ?_)
                  clear hK K
                  refine wpAnyH_ready (rs := [20]) (by kernel_rfl) (by simp) ?_
                  refine AllReadyH.cons rfl (fun K hK => ?_) ?_
                  · refine step_grow rfl (.tmp 18) (.tmp 36) rfl aCom rfl (hol.call bC) rfl rfl (Src.one (tCommit_mk slr slp) _) (by simp) (fun k hk _ => ⟨by omega, fun e => by have := (hol.block k e.symm).2; omega⟩) (by have := HLN.out; simp; omega) (by have := bC.size; omega) ?_
                    intro v7 w7 ho7 hg7
                    obtain ⟨a7, c7, hv7, _, _⟩ := ho7.shape
                    rw [show (L ++ [(rs, ps)]).length = L.length + 1 by simp] at hv7
                    subst hv7
                    have hrow7 : w7.heap[w3.heap.size]? = some (.cells #[.slice al L.length cl, .slice a3 hs.length c3] 33) := (hg7.block _ (by have := bC.size; omega) fun e => by have := (hol.block _ e.symm).1; omega).trans ((bC.block _ (by omega)).trans hrow)
                    have e7 : w7.cell? ⟨w3.heap.size, 0, none⟩ = some (.slice al L.length cl) := by rw [World.cell?, hrow7]; rfl
                    have f7 := frozen_of_row w7 w3.heap.size 0 _ _ hrow7
                    have g7 : Below wB.heap.size wB w7 := g6a.grown hg7 g6a.size fun g hg => by have := (hol.block g hg).1; omega
                    have g8 := g7.setCell (p := ⟨w3.heap.size, 0, none⟩) z3 (.slice a7 (L.length + 1) c7)
                    obtain ⟨fr, fo, fs⟩ := FIN _ w7 a7 c7 bC ho7 hg7
                    clear ho7 hg7 hrow7
                    refine hK.out _ _ (FS _ (by assumption)) (fun hHeld => ?_)
                    clear hK K
                    refine wpAnyH_take (i := 21) (v := ?_) rfl (by kernel_rfl) (by kernel_rfl) (by kernel_rfl) (fun _ _ _ h => h) (Or.inl ⟨by rfl, ?_⟩) (by assumption) ?_
                    rotate_left
                    · intro w hSw; go_simp; try with_reducible rfl
                    simp only [Act.put, List.setIfInBounds_toArray, List.set_cons_zero, List.set_cons_succ]
                    refine wpAnyH_ready (rs := [22]) (by kernel_rfl) (by simp) ?_
                    refine AllReadyH.cons rfl (fun K hK => ?_) ?_
                    · go_simp
                      refine hK.out _ _ (FS _ (by assumption)) (fun hHeld => ?_)
                      clear hK K
                      refine wpAnyH_done (by kernel_rfl) ?_ _
                      go_wp2_with fail
                      go_roundw
                      case rel => exact ⟨j + 1, _, by omega, by go_num, fr, fo, fs⟩
                      case measure => simp [intOf]; omega
                    exact AllReadyH.nil
                  exact AllReadyH.nil
                exact AllReadyH.nil
              refine AllReadyH.cons rfl (fun K hK => ?_) ?_
              · go_simp
                refine hK.out _ _ (FS _ (by assumption)) (fun hHeld => ?_)
                clear hK K
                refine wpAnyH_ready (rs := [1]) (by kernel_rfl) (by simp) ?_
                refine AllReadyH.cons rfl (fun K hK => ?_) ?_
                · go_simp
                  refine hK.out _ _ (FS _ (by assumption)) (fun hHeld => ?_)
                  clear hK K
                  refine wpAnyH_ready (rs := [20]) (by kernel_rfl) (by simp) ?_
                  refine AllReadyH.cons rfl (fun K hK => ?_) ?_
                  · refine step_grow rfl (.tmp 18) (.tmp 36) rfl aCom rfl (hol.call bC) rfl rfl (Src.one (tCommit_mk slr slp) _) (by simp) (fun k hk _ => ⟨by omega, fun e => by have := (hol.block k e.symm).2; omega⟩) (by have := HLN.out; simp; omega) (by have := bC.size; omega) ?_
                    intro v7 w7 ho7 hg7
                    obtain ⟨a7, c7, hv7, _, _⟩ := ho7.shape
                    rw [show (L ++ [(rs, ps)]).length = L.length + 1 by simp] at hv7
                    subst hv7
                    have hrow7 : w7.heap[w3.heap.size]? = some (.cells #[.slice al L.length cl, .slice a3 hs.length c3] 33) := (hg7.block _ (by have := bC.size; omega) fun e => by have := (hol.block _ e.symm).1; omega).trans ((bC.block _ (by omega)).trans hrow)
                    have e7 : w7.cell? ⟨w3.heap.size, 0, none⟩ = some (.slice al L.length cl) := by rw [World.cell?, hrow7]; rfl
                    have f7 := frozen_of_row w7 w3.heap.size 0 _ _ hrow7
                    have g7 : Below wB.heap.size wB w7 := g6a.grown hg7 g6a.size fun g hg => by have := (hol.block g hg).1; omega
                    have g8 := g7.setCell (p := ⟨w3.heap.size, 0, none⟩) z3 (.slice a7 (L.length + 1) c7)
                    obtain ⟨fr, fo, fs⟩ := FIN _ w7 a7 c7 bC ho7 hg7
                    clear ho7 hg7 hrow7
                    refine hK.out _ _ (FS _ (by assumption)) (fun hHeld => ?_)
                    clear hK K
                    refine wpAnyH_take (i := 21) (v := ?_) rfl (by kernel_rfl) (by kernel_rfl) (by kernel_rfl) (fun _ _ _ h => h) (Or.inl ⟨by rfl, ?_⟩) (by assumption) ?_
                    rotate_left
                    · intro w hSw; go_simp; try with_reducible rfl
                    simp only [Act.put, List.setIfInBounds_toArray, List.set_cons_zero, List.set_cons_succ]
                    refine wpAnyH_ready (rs := [22]) (by kernel_rfl) (by simp) ?_
                    refine AllReadyH.cons rfl (fun K hK => ?_) ?_
                    · go_simp
                      refine hK.out _ _ (FS _ (by assumption)) (fun hHeld => ?_)
                      clear hK K
                      refine wpAnyH_done (by kernel_rfl) ?_ _
                      go_wp2_with fail
                      go_roundw
                      case rel => exact ⟨j + 1, _, by omega, by go_num, fr, fo, fs⟩
                      case measure => simp [intOf]; omega
                    exact AllReadyH.nil
                  exact AllReadyH.nil
                exact AllReadyH.nil
              exact AllReadyH.nil
            exact AllReadyH.nil
          exact AllReadyH.nil
        exact AllReadyH.nil
      refine AllReadyH.cons rfl (fun K hK => ?_) ?_
      · go_simp
        refine hK.out _ _ (FS _ (by assumption)) (fun hHeld => ?_)
        clear hK K
        refine wpAnyH_ready (rs := [1, 2]) (by kernel_rfl) (by simp) ?_
        refine AllReadyH.cons rfl (fun K hK => ?_) ?_
        · go_simp
          refine hK.out _ _ (FS _ (by assumption)) (fun hHeld => ?_)
          clear hK K
          refine wpAnyH_ready (rs := [2]) (by kernel_rfl) (by simp) ?_
          refine AllReadyH.cons rfl (fun K hK => ?_) ?_
          · go_simp
            refine hK.out _ _ (FS _ (by assumption)) (fun hHeld => ?_)
            clear hK K
            refine wpAnyH_ready (rs := [9]) (by kernel_rfl) (by simp) ?_
            refine AllReadyH.cons rfl (fun K hK => ?_) ?_
            · refine step_clone rfl (.tmp 19) (.tmp 25) rfl aRow rfl (by first | exact HE.out.1 | exact HE.out.2.2.1 | exact HE.out.2.2.2.2.2 | fail) (by simp) (by first | exact bA.drew | exact bAI.drew | exact bIA.drew | exact bA | exact bAI | exact bIA | fail) rfl hrr hln.1 ?_
              intro a5 c5 w5 ho5 b5 hk5
              obtain ⟨q0, q1, q2, q3⟩ := FK w5 b5
              obtain ⟨qq0, qq1, qq2, qq3⟩ := FK _ (b5.alloc b5.size (.cells #[] 3))
              have g5 := bBr.trans (b5.mono bBr.size)
              have g5a := g5.alloc g5.size (.cells #[] 3)
              refine hK.out _ _ (FS _ (by assumption)) (fun hHeld => ?_)
              clear hK K
              refine wpAnyH_ready (rs := [17]) (by kernel_rfl) (by simp) ?_
              refine AllReadyH.cons rfl (fun K hK => ?_) ?_
              · refine step_clone rfl (.tmp 27) (.tmp 33) rfl aInt rfl (by first | exact heap_alloc_new w5 _ | exact hk5 _ _ _ (by decide) HE.out.2.2.2.2.1 | exact hk5 _ _ _ (by decide) HE.out.2.2.2.1 | fail) (by have := b5.size; simp <;> omega) (by first | exact b5 | exact b5.alloc b5.size _ | fail) rfl hpp hln.2 ?_
                intro a6 c6 w6 ho6 b6 hk6
                have ho56 : Own tRow 86 w6 wr.heap.size (fun _ => False) (.slice a5 rs.length c5) rs := (by first | exact (ho5.flatRow (D := fun _ => False)).typed fun g cs h => hk6 g cs _ (by decide) h | exact ((ho5.flatRow (D := fun _ => False)).alloc _).typed fun g cs h => hk6 g cs _ (by decide) h | fail)
                have slr := ho56.sl (D := fun k => wr.heap.size ≤ k) (fun _ h => h.elim) (fun _ h => h)
                have slp := (ho6.flatInt (D := fun _ => False)).sl (D := fun k => wr.heap.size ≤ k) (fun _ h => h.elim) (fun _ h => h)
                have bW := (Below.refl w6.heap.size w6).alloc (Nat.le_refl _) (.cells #[.slice a5 rs.length c5, .slice a6 ps.length c6] 59)
                have bC := b6.trans (bW.mono b6.size)
                have slrC := slr.call bW
                have slpC := slp.call bW
                obtain ⟨r0, r1, r2, r3⟩ := FK w6 b6
                obtain ⟨rr0, rr1, rr2, rr3⟩ := FK _ bC
                have g6 := bBr.trans (b6.mono bBr.size)
                have g6a := bBr.trans (bC.mono bBr.size)
                clear ho5 hk5 ho6 hk6
                refine hK.out _ _ (FS _ (by assumption)) (fun hHeld => ?_)
                clear hK K
                refine wpAnyH_take (i := 18) (v := ?_) rfl (by kernel_rfl) (by kernel_rfl) (by kernel_rfl) (fun _ _ _ h => h) (Or.inl ⟨by rfl, ?_⟩) (by assumption) ?_
                rotate_left
                · intro w hSw; go_simp; try with_reducible rfl
                simp only [Act.put, List.setIfInBounds_toArray, List.set_cons_zero, List.set_cons_succ]
                refine wpAnyH_ready (rs := [19]) (by kernel_rfl) (by simp) ?_
                refine AllReadyH.cons rfl (fun K hK => ?_) ?_
                · go_simp
                  refine hK.out _ _ (FS _ (by assumption)) (fun hHeld => ?_)
                  clear hK K
                  refine wpAnyH_ready (rs := [20]) (by kernel_rfl) (by simp) ?_
                  refine AllReadyH.cons rfl (fun K hK => ?_) ?_
                  · refine step_grow rfl (.tmp 18) (.tmp 36) rfl aCom rfl (hol.call bC) rfl rfl (Src.one (tCommit_mk slr slp) _) (by simp) (fun k hk _ => ⟨by omega, fun e => by have := (hol.block k e.symm).2; omega⟩) (by have := HLN.out; simp; omega) (by have := bC.size; omega) ?_
                    intro v7 w7 ho7 hg7
                    obtain ⟨a7, c7, hv7, _, _⟩ := ho7.shape
                    rw [show (L ++ [(rs, ps)]).length = L.length + 1 by simp] at hv7
                    subst hv7
                    have hrow7 : w7.heap[w3.heap.size]? = some (.cells #[.slice al L.length cl, .slice a3 hs.length c3] 33) := (hg7.block _ (by have := bC.size; omega) fun e => by have := (hol.block _ e.symm).1; omega).trans ((bC.block _ (by omega)).trans hrow)
                    have e7 : w7.cell? ⟨w3.heap.size, 0, none⟩ = some (.slice al L.length cl) := by rw [World.cell?, hrow7]; rfl
                    have f7 := frozen_of_row w7 w3.heap.size 0 _ _ hrow7
                    have g7 : Below wB.heap.size wB w7 := g6a.grown hg7 g6a.size fun g hg => by have := (hol.block g hg).1; omega
                    have g8 := g7.setCell (p := ⟨w3.heap.size, 0, none⟩) z3 (.slice a7 (L.length + 1) c7)
                    obtain ⟨fr, fo, fs⟩ := FIN _ w7 a7 c7 bC ho7 hg7
                    clear ho7 hg7 hrow7
                    refine hK.out _ _ (FS _ (by assumption)) (fun hHeld => ?_)
                    clear hK K
                    refine wpAnyH_take (i := 21) (v := ?_) rfl (by kernel_rfl) (by kernel_rfl) (by kernel_rfl) (fun _ _ _ h => h) (Or.inl ⟨by rfl, ?_⟩) (by assumption) ?_
                    rotate_left
                    · intro w hSw; go_simp; try with_reducible rfl
                    simp only [Act.put, List.setIfInBounds_toArray, List.set_cons_zero, List.set_cons_succ]
                    refine wpAnyH_ready (rs := [22]) (by kernel_rfl) (by simp) ?_
                    refine AllReadyH.cons rfl (fun K hK => ?_) ?_
                    · go_simp
                      refine hK.out _ _ (FS _ (by assumption)) (fun hHeld => ?_)
                      clear hK K
                      refine wpAnyH_done (by kernel_rfl) ?_ _
                      go_wp2_with fail
                      go_roundw
                      case rel => exact ⟨j + 1, _, by omega, by go_num, fr, fo, fs⟩
                      case measure => simp [intOf]; omega
                    exact AllReadyH.nil
                  exact AllReadyH.nil
                exact AllReadyH.nil
              exact AllReadyH.nil
            exact AllReadyH.nil
          exact AllReadyH.nil
        refine AllReadyH.cons rfl (fun K hK => ?_) ?_
        · go_simp
          refine hK.out _ _ (FS _ (by assumption)) (fun hHeld => ?_)
          clear hK K
          refine wpAnyH_ready (rs := [1, 9]) (by kernel_rfl) (by simp) ?_
          refine AllReadyH.cons rfl (fun K hK => ?_) ?_
          · go_simp
            refine hK.out _ _ (FS _ (by assumption)) (fun hHeld => ?_)
            clear hK K
            refine wpAnyH_ready (rs := [9]) (by kernel_rfl) (by simp) ?_
            refine AllReadyH.cons rfl (fun K hK => ?_) ?_
            · refine step_clone rfl (.tmp 19) (.tmp 25) rfl aRow rfl (by first | exact HE.out.1 | exact HE.out.2.2.1 | exact HE.out.2.2.2.2.2 | fail) (by simp) (by first | exact bA.drew | exact bAI.drew | exact bIA.drew | exact bA | exact bAI | exact bIA | fail) rfl hrr hln.1 ?_
              intro a5 c5 w5 ho5 b5 hk5
              obtain ⟨q0, q1, q2, q3⟩ := FK w5 b5
              obtain ⟨qq0, qq1, qq2, qq3⟩ := FK _ (b5.alloc b5.size (.cells #[] 3))
              have g5 := bBr.trans (b5.mono bBr.size)
              have g5a := g5.alloc g5.size (.cells #[] 3)
              refine hK.out _ _ (FS _ (by assumption)) (fun hHeld => ?_)
              clear hK K
              refine wpAnyH_ready (rs := [17]) (by kernel_rfl) (by simp) ?_
              refine AllReadyH.cons rfl (fun K hK => ?_) ?_
              · refine step_clone rfl (.tmp 27) (.tmp 33) rfl aInt rfl (by first | exact heap_alloc_new w5 _ | exact hk5 _ _ _ (by decide) HE.out.2.2.2.2.1 | exact hk5 _ _ _ (by decide) HE.out.2.2.2.1 | fail) (by have := b5.size; simp <;> omega) (by first | exact b5 | exact b5.alloc b5.size _ | fail) rfl hpp hln.2 ?_
                intro a6 c6 w6 ho6 b6 hk6
                have ho56 : Own tRow 86 w6 wr.heap.size (fun _ => False) (.slice a5 rs.length c5) rs := (by first | exact (ho5.flatRow (D := fun _ => False)).typed fun g cs h => hk6 g cs _ (by decide) h | exact ((ho5.flatRow (D := fun _ => False)).alloc _).typed fun g cs h => hk6 g cs _ (by decide) h | fail)
                have slr := ho56.sl (D := fun k => wr.heap.size ≤ k) (fun _ h => h.elim) (fun _ h => h)
                have slp := (ho6.flatInt (D := fun _ => False)).sl (D := fun k => wr.heap.size ≤ k) (fun _ h => h.elim) (fun _ h => h)
                have bW := (Below.refl w6.heap.size w6).alloc (Nat.le_refl _) (.cells #[.slice a5 rs.length c5, .slice a6 ps.length c6] 59)
                have bC := b6.trans (bW.mono b6.size)
                have slrC := slr.call bW
                have slpC := slp.call bW
                obtain ⟨r0, r1, r2, r3⟩ := FK w6 b6
                obtain ⟨rr0, rr1, rr2, rr3⟩ := FK _ bC
                have g6 := bBr.trans (b6.mono bBr.size)
                have g6a := bBr.trans (bC.mono bBr.size)
                clear ho5 hk5 ho6 hk6
                refine hK.out _ _ (FS _ (by assumption)) (fun hHeld => ?_)
                clear hK K
                refine wpAnyH_take (i := 18) (v := ?_) rfl (by kernel_rfl) (by kernel_rfl) (by kernel_rfl) (fun _ _ _ h => h) (Or.inl ⟨by rfl, ?_⟩) (by assumption) ?_
                rotate_left
                · intro w hSw; go_simp; try with_reducible rfl
                simp only [Act.put, List.setIfInBounds_toArray, List.set_cons_zero, List.set_cons_succ]
                refine wpAnyH_ready (rs := [19]) (by kernel_rfl) (by simp) ?_
                refine AllReadyH.cons rfl (fun K hK => ?_) ?_
                · go_simp
                  refine hK.out _ _ (FS _ (by assumption)) (fun hHeld => ?_)
                  clear hK K
                  refine wpAnyH_ready (rs := [20]) (by kernel_rfl) (by simp) ?_
                  refine AllReadyH.cons rfl (fun K hK => ?_) ?_
                  · refine step_grow rfl (.tmp 18) (.tmp 36) rfl aCom rfl (hol.call bC) rfl rfl (Src.one (tCommit_mk slr slp) _) (by simp) (fun k hk _ => ⟨by omega, fun e => by have := (hol.block k e.symm).2; omega⟩) (by have := HLN.out; simp; omega) (by have := bC.size; omega) ?_
                    intro v7 w7 ho7 hg7
                    obtain ⟨a7, c7, hv7, _, _⟩ := ho7.shape
                    rw [show (L ++ [(rs, ps)]).length = L.length + 1 by simp] at hv7
                    subst hv7
                    have hrow7 : w7.heap[w3.heap.size]? = some (.cells #[.slice al L.length cl, .slice a3 hs.length c3] 33) := (hg7.block _ (by have := bC.size; omega) fun e => by have := (hol.block _ e.symm).1; omega).trans ((bC.block _ (by omega)).trans hrow)
                    have e7 : w7.cell? ⟨w3.heap.size, 0, none⟩ = some (.slice al L.length cl) := by rw [World.cell?, hrow7]; rfl
                    have f7 := frozen_of_row w7 w3.heap.size 0 _ _ hrow7
                    have g7 : Below wB.heap.size wB w7 := g6a.grown hg7 g6a.size fun g hg => by have := (hol.block g hg).1; omega
                    have g8 := g7.setCell (p := ⟨w3.heap.size, 0, none⟩) z3 (.slice a7 (L.length + 1) c7)
                    obtain ⟨fr, fo, fs⟩ := FIN _ w7 a7 c7 bC ho7 hg7
                    clear ho7 hg7 hrow7
                    refine hK.out _ _ (FS _ (by assumption)) (fun hHeld => ?_)
                    clear hK K
                    refine wpAnyH_take (i := 21) (v := ?_) rfl (by kernel_rfl) (by kernel_rfl) (by kernel_rfl) (fun _ _ _ h => h) (Or.inl ⟨by rfl, ?_⟩) (by assumption) ?_
                    rotate_left
                    · intro w hSw; go_simp; try with_reducible rfl
                    simp only [Act.put, List.setIfInBounds_toArray, List.set_cons_zero, List.set_cons_succ]
                    refine wpAnyH_ready (rs := [22]) (by kernel_rfl) (by simp) ?_
                    refine AllReadyH.cons rfl (fun K hK => ?_) ?_
                    · go_simp
                      refine hK.out _ _ (FS _ (by assumption)) (fun hHeld => ?_)
                      clear hK K
                      refine wpAnyH_done (by kernel_rfl) ?_ _
                      go_wp2_with fail
                      go_roundw
                      case rel => exact ⟨j + 1, _, by omega, by go_num, fr, fo, fs⟩
                      case measure => simp [intOf]; omega
                    exact AllReadyH.nil
                  exact AllReadyH.nil
                exact AllReadyH.nil
              exact AllReadyH.nil
            exact AllReadyH.nil
          refine AllReadyH.cons rfl (fun K hK => ?_) ?_
          · refine step_clone rfl (.tmp 19) (.tmp 25) rfl aRow rfl (by first | exact HE.out.1 | exact HE.out.2.2.1 | exact HE.out.2.2.2.2.2 | fail) (by simp) (by first | exact bA.drew | exact bAI.drew | exact bIA.drew | exact bA | exact bAI | exact bIA | fail) rfl hrr hln.1 ?_
            intro a5 c5 w5 ho5 b5 hk5
            obtain ⟨q0, q1, q2, q3⟩ := FK w5 b5
            obtain ⟨qq0, qq1, qq2, qq3⟩ := FK _ (b5.alloc b5.size (.cells #[] 3))
            have g5 := bBr.trans (b5.mono bBr.size)
            have g5a := g5.alloc g5.size (.cells #[] 3)
            refine hK.out _ _ (FS _ (by assumption)) (fun hHeld => ?_)
            clear hK K
            refine wpAnyH_ready (rs := [1, 17]) (by kernel_rfl) (by simp) ?_
            refine AllReadyH.cons rfl (fun K hK => ?_) ?_
            · go_simp
              refine hK.out _ _ (FS _ (by assumption)) (fun hHeld => ?_)
              clear hK K
              refine wpAnyH_ready (rs := [17]) (by kernel_rfl) (by simp) ?_
              refine AllReadyH.cons rfl (fun K hK => ?_) ?_
              · refine step_clone rfl (.tmp 27) (.tmp 33) rfl aInt rfl (by first | exact heap_alloc_new w5 _ | exact hk5 _ _ _ (by decide) HE.out.2.2.2.2.1 | exact hk5 _ _ _ (by decide) HE.out.2.2.2.1 | fail) (by have := b5.size; simp <;> omega) (by first | exact b5 | exact b5.alloc b5.size _ | fail) rfl hpp hln.2 ?_
                intro a6 c6 w6 ho6 b6 hk6
                have ho56 : Own tRow 86 w6 wr.heap.size (fun _ => False) (.slice a5 rs.length c5) rs := (by first | exact (ho5.flatRow (D := fun _ => False)).typed fun g cs h => hk6 g cs _ (by decide) h | exact ((ho5.flatRow (D := fun _ => False)).alloc _).typed fun g cs h => hk6 g cs _ (by decide) h | fail)
                have slr := ho56.sl (D := fun k => wr.heap.size ≤ k) (fun _ h => h.elim) (fun _ h => h)
                have slp := (ho6.flatInt (D := fun _ => False)).sl (D := fun k => wr.heap.size ≤ k) (fun _ h => h.elim) (fun _ h => h)
                have bW := (Below.refl w6.heap.size w6).alloc (Nat.le_refl _) (.cells #[.slice a5 rs.length c5, .slice a6 ps.length c6] 59)
                have bC := b6.trans (bW.mono b6.size)
                have slrC := slr.call bW
                have slpC := slp.call bW
                obtain ⟨r0, r1, r2, r3⟩ := FK w6 b6
                obtain ⟨rr0, rr1, rr2, rr3⟩ := FK _ bC
                have g6 := bBr.trans (b6.mono bBr.size)
                have g6a := bBr.trans (bC.mono bBr.size)
                clear ho5 hk5 ho6 hk6
                refine hK.out _ _ (FS _ (by assumption)) (fun hHeld => ?_)
                clear hK K
                refine wpAnyH_take (i := 18) (v := ?_) rfl (by kernel_rfl) (by kernel_rfl) (by kernel_rfl) (fun _ _ _ h => h) (Or.inl ⟨by rfl, ?_⟩) (by assumption) ?_
                rotate_left
                · intro w hSw; go_simp; try with_reducible rfl
                simp only [Act.put, List.setIfInBounds_toArray, List.set_cons_zero, List.set_cons_succ]
                refine wpAnyH_ready (rs := [19]) (by kernel_rfl) (by simp) ?_
                refine AllReadyH.cons rfl (fun K hK => ?_) ?_
                · go_simp
                  refine hK.out _ _ (FS _ (by assumption)) (fun hHeld => ?_)
                  clear hK K
                  refine wpAnyH_ready (rs := [20]) (by kernel_rfl) (by simp) ?_
                  refine AllReadyH.cons rfl (fun K hK => ?_) ?_
                  · refine step_grow rfl (.tmp 18) (.tmp 36) rfl aCom rfl (hol.call bC) rfl rfl (Src.one (tCommit_mk slr slp) _) (by simp) (fun k hk _ => ⟨by omega, fun e => by have := (hol.block k e.symm).2; omega⟩) (by have := HLN.out; simp; omega) (by have := bC.size; omega) ?_
                    intro v7 w7 ho7 hg7
                    obtain ⟨a7, c7, hv7, _, _⟩ := ho7.shape
                    rw [show (L ++ [(rs, ps)]).length = L.length + 1 by simp] at hv7
                    subst hv7
                    have hrow7 : w7.heap[w3.heap.size]? = some (.cells #[.slice al L.length cl, .slice a3 hs.length c3] 33) := (hg7.block _ (by have := bC.size; omega) fun e => by have := (hol.block _ e.symm).1; omega).trans ((bC.block _ (by omega)).trans hrow)
                    have e7 : w7.cell? ⟨w3.heap.size, 0, none⟩ = some (.slice al L.length cl) := by rw [World.cell?, hrow7]; rfl
                    have f7 := frozen_of_row w7 w3.heap.size 0 _ _ hrow7
                    have g7 : Below wB.heap.size wB w7 := g6a.grown hg7 g6a.size fun g hg => by have := (hol.block g hg).1; omega
                    have g8 := g7.setCell (p := ⟨w3.heap.size, 0, none⟩) z3 (.slice a7 (L.length + 1) c7)
                    obtain ⟨fr, fo, fs⟩ := FIN _ w7 a7 c7 bC ho7 hg7
                    clear ho7 hg7 hrow7
                    refine hK.out _ _ (FS _ (by assumption)) (fun hHeld => ?_)
                    clear hK K
                    refine wpAnyH_take (i := 21) (v := ?_) rfl (by kernel_rfl) (by kernel_rfl) (by kernel_rfl) (fun _ _ _ h => h) (Or.inl ⟨by rfl, ?_⟩) (by assumption) ?_
                    rotate_left
                    · intro w hSw; go_simp; try with_reducible rfl
                    simp only [Act.put, List.setIfInBounds_toArray, List.set_cons_zero, List.set_cons_succ]
                    refine wpAnyH_ready (rs := [22]) (by kernel_rfl) (by simp) ?_
                    refine AllReadyH.cons rfl (fun K hK => ?_) ?_
                    · go_simp
                      refine hK.out _ _ (FS _ (by assumption)) (fun hHeld => ?_)
                      clear hK K
                      refine wpAnyH_done (by kernel_rfl) ?_ _
                      go_wp2_with fail
                      go_roundw
                      case rel => exact ⟨j + 1, _, by omega, by go_num, fr, fo, fs⟩
                      case measure => simp [intOf]; omega
                    exact AllReadyH.nil
                  exact AllReadyH.nil
                exact AllReadyH.nil
              exact AllReadyH.nil
            refine AllReadyH.cons rfl (fun K hK => ?_) ?_
            · refine step_clone rfl (.tmp 27) (.tmp 33) rfl aInt rfl (by first | exact heap_alloc_new w5 _ | exact hk5 _ _ _ (by decide) HE.out.2.2.2.2.1 | exact hk5 _ _ _ (by decide) HE.out.2.2.2.1 | fail) (by have := b5.size; simp <;> omega) (by first | exact b5 | exact b5.alloc b5.size _ | fail) rfl hpp hln.2 ?_
              intro a6 c6 w6 ho6 b6 hk6
              have ho56 : Own tRow 86 w6 wr.heap.size (fun _ => False) (.slice a5 rs.length c5) rs := (by first | exact (ho5.flatRow (D := fun _ => False)).typed fun g cs h => hk6 g cs _ (by decide) h | exact ((ho5.flatRow (D := fun _ => False)).alloc _).typed fun g cs h => hk6 g cs _ (by decide) h | fail)
              have slr := ho56.sl (D := fun k => wr.heap.size ≤ k) (fun _ h => h.elim) (fun _ h => h)
              have slp := (ho6.flatInt (D := fun _ => False)).sl (D := fun k => wr.heap.size ≤ k) (fun _ h => h.elim) (fun _ h => h)
              have bW := (Below.refl w6.heap.size w6).alloc (Nat.le_refl _) (.cells #[.slice a5 rs.length c5, .slice a6 ps.length c6] 59)
              have bC := b6.trans (bW.mono b6.size)
              have slrC := slr.call bW
              have slpC := slp.call bW
              obtain ⟨r0, r1, r2, r3⟩ := FK w6 b6
              obtain ⟨rr0, rr1, rr2, rr3⟩ := FK _ bC
              have g6 := bBr.trans (b6.mono bBr.size)
              have g6a := bBr.trans (bC.mono bBr.size)
              clear ho5 hk5 ho6 hk6
              refine hK.out _ _ (FS _ (by assumption)) (fun hHeld => ?_)
              clear hK K
              refine wpAnyH_take (i := 18) (v := ?_) rfl (by kernel_rfl) (by kernel_rfl) (by kernel_rfl) (fun _ _ _ h => h) (Or.inl ⟨by rfl, ?_⟩) (by assumption) ?_
              rotate_left
              · intro w hSw; go_simp; try with_reducible rfl
              simp only [Act.put, List.setIfInBounds_toArray, List.set_cons_zero, List.set_cons_succ]
              refine wpAnyH_ready (rs := [1, 19]) (by kernel_rfl) (by simp) ?_
              refine AllReadyH.cons rfl (fun K hK => ?_) ?_
              · go_simp
                refine hK.out _ _ (FS _ (by assumption)) (fun hHeld => ?_)
                clear hK K
                refine wpAnyH_ready (rs := [19]) (by kernel_rfl) (by simp) ?_
                refine AllReadyH.cons rfl (fun K hK => ?_) ?_
                · go_simp
                  refine hK.out _ _ (FS _ (by assumption)) (fun hHeld => ?_)
                  clear hK K
                  refine wpAnyH_ready (rs := [20]) (by kernel_rfl) (by simp) ?_
                  refine AllReadyH.cons rfl (fun K hK => ?_) ?_
                  · refine step_grow rfl (.tmp 18) (.tmp 36) rfl aCom rfl (hol.call bC) rfl rfl (Src.one (tCommit_mk slr slp) _) (by simp) (fun k hk _ => ⟨by omega, fun e => by have := (hol.block k e.symm).2; omega⟩) (by have := HLN.out; simp; omega) (by have := bC.size; omega) ?_
                    intro v7 w7 ho7 hg7
                    obtain ⟨a7, c7, hv7, _, _⟩ := ho7.shape
                    rw [show (L ++ [(rs, ps)]).length = L.length + 1 by simp] at hv7
                    subst hv7
                    have hrow7 : w7.heap[w3.heap.size]? = some (.cells #[.slice al L.length cl, .slice a3 hs.length c3] 33) := (hg7.block _ (by have := bC.size; omega) fun e => by have := (hol.block _ e.symm).1; omega).trans ((bC.block _ (by omega)).trans hrow)
                    have e7 : w7.cell? ⟨w3.heap.size, 0, none⟩ = some (.slice al L.length cl) := by rw [World.cell?, hrow7]; rfl
                    have f7 := frozen_of_row w7 w3.heap.size 0 _ _ hrow7
                    have g7 : Below wB.heap.size wB w7 := g6a.grown hg7 g6a.size fun g hg => by have := (hol.block g hg).1; omega
                    have g8 := g7.setCell (p := ⟨w3.heap.size, 0, none⟩) z3 (.slice a7 (L.length + 1) c7)
                    obtain ⟨fr, fo, fs⟩ := FIN _ w7 a7 c7 bC ho7 hg7
                    clear ho7 hg7 hrow7
                    refine hK.out _ _ (FS _ (by assumption)) (fun hHeld => ?_)
                    clear hK K
                    refine wpAnyH_take (i := 21) (v := ?_) rfl (by kernel_rfl) (by kernel_rfl) (by kernel_rfl) (fun _ _ _ h => h) (Or.inl ⟨by rfl, ?_⟩) (by assumption) ?_
                    rotate_left
                    · intro w hSw; go_simp; try with_reducible rfl
                    simp only [Act.put, List.setIfInBounds_toArray, List.set_cons_zero, List.set_cons_succ]
                    refine wpAnyH_ready (rs := [22]) (by kernel_rfl) (by simp) ?_
                    refine AllReadyH.cons rfl (fun K hK => ?_) ?_
                    · go_simp
                      refine hK.out _ _ (FS _ (by assumption)) (fun hHeld => ?_)
                      clear hK K
                      refine wpAnyH_done (by kernel_rfl) ?_ _
                      go_wp2_with fail
                      go_roundw
                      case rel => exact ⟨j + 1, _, by omega, by go_num, fr, fo, fs⟩
                      case measure => simp [intOf]; omega
                    exact AllReadyH.nil
                  exact AllReadyH.nil
                exact AllReadyH.nil
              refine AllReadyH.cons rfl (fun K hK => ?_) ?_
              · go_simp
                refine hK.out _ _ (FS _ (by assumption)) (fun hHeld => ?_)
                clear hK K
                refine wpAnyH_ready (rs := [1]) (by kernel_rfl) (by simp) ?_
                refine AllReadyH.cons rfl (fun K hK => ?_) ?_
                · go_simp
                  refine hK.out _ _ (FS _ (by assumption)) (fun hHeld => ?_)
                  clear hK K
                  refine wpAnyH_ready (rs := [20]) (by kernel_rfl) (by simp) ?_
                  refine AllReadyH.cons rfl (fun K hK => ?_) ?_
                  · refine step_grow rfl (.tmp 18) (.tmp 36) rfl aCom rfl (hol.call bC) rfl rfl (Src.one (tCommit_mk slr slp) _) (by simp) (fun k hk _ => ⟨by omega, fun e => by have := (hol.block k e.symm).2; omega⟩) (by have := HLN.out; simp; omega) (by have := bC.size; omega) ?_
                    intro v7 w7 ho7 hg7
                    obtain ⟨a7, c7, hv7, _, _⟩ := ho7.shape
                    rw [show (L ++ [(rs, ps)]).length = L.length + 1 by simp] at hv7
                    subst hv7
                    have hrow7 : w7.heap[w3.heap.size]? = some (.cells #[.slice al L.length cl, .slice a3 hs.length c3] 33) := (hg7.block _ (by have := bC.size; omega) fun e => by have := (hol.block _ e.symm).1; omega).trans ((bC.block _ (by omega)).trans hrow)
                    have e7 : w7.cell? ⟨w3.heap.size, 0, none⟩ = some (.slice al L.length cl) := by rw [World.cell?, hrow7]; rfl
                    have f7 := frozen_of_row w7 w3.heap.size 0 _ _ hrow7
                    have g7 : Below wB.heap.size wB w7 := g6a.grown hg7 g6a.size fun g hg => by have := (hol.block g hg).1; omega
                    have g8 := g7.setCell (p := ⟨w3.heap.size, 0, none⟩) z3 (.slice a7 (L.length + 1) c7)
                    obtain ⟨fr, fo, fs⟩ := FIN _ w7 a7 c7 bC ho7 hg7
                    clear ho7 hg7 hrow7
                    refine hK.out _ _ (FS _ (by assumption)) (fun hHeld => ?_)
                    clear hK K
                    refine wpAnyH_take (i := 21) (v := ?_) rfl (by kernel_rfl) (by kernel_rfl) (by kernel_rfl) (fun _ _ _ h => h) (Or.inl ⟨by rfl, ?_⟩) (by assumption) ?_
                    rotate_left
                    · intro w hSw; go_simp; try with_reducible rfl
                    simp only [Act.put, List.setIfInBounds_toArray, List.set_cons_zero, List.set_cons_succ]
                    refine wpAnyH_ready (rs := [22]) (by kernel_rfl) (by simp) ?_
                    refine AllReadyH.cons rfl (fun K hK => ?_) ?_
                    · go_simp
                      refine hK.out _ _ (FS _ (by assumption)) (fun hHeld => ?_)
                      clear hK K
                      refine wpAnyH_done (by kernel_rfl) ?_ _
                      go_wp2_with fail
                      go_roundw
                      case rel => exact ⟨j + 1, _, by omega, by go_num, fr, fo, fs⟩
                      case measure => simp [intOf]; omega
                    exact AllReadyH.nil
                  exact AllReadyH.nil
                exact AllReadyH.nil
              exact AllReadyH.nil
            exact AllReadyH.nil
          exact AllReadyH.nil
        exact AllReadyH.nil
      exact AllReadyH.nil
      --END
    · have hjj : j = cs.length := by omega
      subst hjj
      rw [List.take_length] at hol
      have o0 : wr.cell? ⟨w3.heap.size, 0, none⟩ = some vl := by rw [World.cell?, hrow]; rfl
      have o1 : wr.cell? ⟨w3.heap.size, 1, none⟩ = some (.slice a3 hs.length c3) := by rw [World.cell?, hrow]; rfl
      obtain ⟨al, cl, rfl, _, _⟩ := hol.shape
      go_wp2_with fail
      have hk9 : ∀ q, q ≠ w.heap.size + 1 → ((wr.setCell ⟨w.heap.size + 1, 0, none⟩ (.slice al cs.length cl)).setCell ⟨w.heap.size + 1, 1, none⟩ (.slice a3 hs.length c3)).heap[q]? = wr.heap[q]? := fun q hq => (heap_setCell_other _ _ _ _ hq).trans (heap_setCell_other _ _ _ _ hq)
      have hhb : ∀ q, (Value.slice a3 hs.length c3).ownBlock = some q → w.heap.size + 2 ≤ q ∧ q < w3.heap.size := fun q hq => hoh.block q hq
      have hC : Own tCommit 59 ((wr.setCell ⟨w.heap.size + 1, 0, none⟩ (.slice al cs.length cl)).setCell ⟨w.heap.size + 1, 1, none⟩ (.slice a3 hs.length c3)) w.heap.size (fun k => w.heap.size ≤ k ∧ some k ≠ (Value.slice a3 hs.length c3).ownBlock) (.slice al cs.length cl) cs :=
        ((hol.keep fun k hk _ => hk9 k (by
          rcases hk with hk | hk
          · omega
          · have := (hol.block k hk).1; omega)).lower (by omega)).mono fun k hk _ => ⟨by omega, fun e => by have := (hhb k e.symm).2; omega⟩
      have hH : Own tHead 61 ((wr.setCell ⟨w.heap.size + 1, 0, none⟩ (.slice al cs.length cl)).setCell ⟨w.heap.size + 1, 1, none⟩ (.slice a3 hs.length c3)) w.heap.size (fun _ => False) (.slice a3 hs.length c3) hs :=
        ((((hoh.flatHead (D := fun _ => False)).call b34).grownTo hst fun k hk => by
          rcases hk with hk | hk
          · exact hk.1.elim
          · have := (hhb k hk).2; omega).keep fun k hk _ => hk9 k (by
          rcases hk with hk | hk
          · exact hk.elim
          · have := (hhb k hk).1; omega)).lower (by omega)
      have hfin := hX.fin bBr (.slice al cs.length cl) (.slice a3 hs.length c3)
      exact bodyPost_ret (results_cell_row rfl _ _ _ _ _ _ _ rfl hfin.1 Tryz.underlying33 rfl rfl) rfl ⟨_, rfl, ⟨_, _, rfl, hC, hH⟩, hfin.2⟩
end Go.Pch
end
