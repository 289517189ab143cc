/- The walk of diffBegun; literals of rows and of changes. -/
import Derived.Test.YtipondhhchicjaaDiffB
import Derived.Test.YtipondhhchicjaaDiffC
import Derived.Test.YtipondhhchicjaaDiffF
import Derived.Test.YtipondhhchicjaaDiffQ
import Derived.Test.YtipondhhchicjaaFew
import Derived.Test.YtipondhhchicjaaTreeF
namespace Go.Pch
open Go.RowKit Go.Proofs
set_option maxRecDepth 100000

def rowV (r : Row) : List Value := [.int .i64 r.1, .int .i64 r.2]
theorem rowsLit (w : World) (l : List Row) (hok : (l.all fun r => decide (-1000000 ≤ r.1 ∧ r.1 ≤ 1000000) && decide (-1000000 ≤ r.2 ∧ r.2 ≤ 1000000)) = true) (hl : l.length ≤ 1000) :
    Sl tRow (w.alloc (.cells ((l.map rowV).flatten).toArray 64)) (fun k => w.heap.size ≤ k) (.slice (some ⟨w.heap.size, 0, none⟩) l.length l.length) l := by
  have hE : Each tRow w (fun _ => False) (l.map rowV) l := by
    refine ⟨by simp, fun i cs r h1 h2 => ?_⟩
    rw [List.getElem?_map, h2] at h1
    obtain rfl := Option.some.inj h1
    have := List.all_eq_true.1 hok r (List.mem_of_getElem? h2)
    simp only [Bool.and_eq_true, decide_eq_true_eq] at this
    exact ⟨rfl, ok_small this.1, ok_small this.2⟩
  exact (Own.lit (E := tRow) (e := 64) (B := w.heap.size) hE rfl (by unfold maxLen; omega) (Nat.le_refl _)).sl (fun _ h => h.elim) (fun _ h => h)
theorem chgsLit (w : World) (l : List Change) (hok : (l.all fun r => decide (-1000000 ≤ r.1 ∧ r.1 ≤ 1000000) && decide (-1000000 ≤ r.2.1 ∧ r.2.1 ≤ 1000000) && decide (-1000000 ≤ r.2.2 ∧ r.2.2 ≤ 1000000)) = true) (hl : l.length ≤ 1000) :
    Sl tChange (w.alloc (.cells ((l.map chgV).flatten).toArray 42)) (fun k => w.heap.size ≤ k) (.slice (some ⟨w.heap.size, 0, none⟩) l.length l.length) l := by
  have hE : Each tChange w (fun _ => False) (l.map chgV) l := each_of fun r hr => by
    have := List.all_eq_true.1 hok r hr
    simp only [Bool.and_eq_true, decide_eq_true_eq] at this
    exact ⟨ok_small this.1.1, ok_small this.1.2, ok_small this.2⟩
  exact (Own.lit (E := tChange) (e := 42) (B := w.heap.size) hE rfl (by unfold maxLen; omega) (Nat.le_refl _)).sl (fun _ h => h.elim) (fun _ h => h)

theorem treeBuildOk {l : List Row} (v : Value) (S : Blk) (w : World) (h : Sl tRow w S v l) (hl : rowsErr l = 0) :
    Calls Try.prog 21 #[v] w (Ret w fun r w' => ∃ x, r = .tuple #[x, .int .i64 0] ∧ Sl tRow.slice.slice w' (fun k => w.heap.size ≤ k) x (treeL l)) := by
  have := treeBuild v l S w h
  rwa [show buildP l = (treeL l, 0) by rw [buildP, if_pos hl]] at this
theorem treeBuildBad {l : List Row} (v : Value) (S : Blk) (w : World) (h : Sl tRow w S v l) (hl : rowsErr l ≠ 0) :
    Calls Try.prog 21 #[v] w (Ret w fun r w' => ∃ x, r = .tuple #[x, .int .i64 (rowsErr l)] ∧ Sl tRow.slice.slice w' (fun k => w.heap.size ≤ k) x []) := by
  have := treeBuild v l S w h
  rwa [show buildP l = ([], rowsErr l) by rw [buildP, if_neg hl]] at this
theorem diffOf_is {c : List Change × Int} (v u : Value) (a b : List (List (List Row))) (S S' : Blk) (w : World) (h : Sl tRow.slice.slice w S v a) (g : Sl tRow.slice.slice w S' u b) (hla : (flatL a).length ≤ 2000000) (hlb : (flatL b).length ≤ 2000000) (hc : diffP a b = c) :
    Calls Try.prog 22 #[v, u] w (Ret w fun r w' => ∃ x, r = .tuple #[x, .int .i64 c.2] ∧ Sl tChange w' (fun k => w.heap.size ≤ k) x c.1) := hc ▸ diffOf v u a b w h.old g.old hla hlb
theorem diffPatch_is {c : List Row × Int} (v u : Value) (l : List Row) (d : List Change) (S S' : Blk) (w : World) (h : Sl tRow w S v l) (g : Sl tChange w S' u d) (hc : patchP l d = c) :
    Calls Try.prog 23 #[v, u] w (Ret w fun r w' => ∃ x, r = .tuple #[x, .int .i64 c.2] ∧ Sl tRow w' (fun k => w.heap.size ≤ k) x c.1) := hc ▸ diffPatch v u l d S S' w h g
theorem diffBack_is {c : List Change × Int} (v : Value) (d : List Change) (S : Blk) (w : World) (h : Sl tChange w S v d) (hc : backP d = c) :
    Calls Try.prog 27 #[v] w (Ret w fun r w' => ∃ x, r = .tuple #[x, .int .i64 c.2] ∧ Sl tChange w' (fun k => w.heap.size ≤ k) x c.1) := hc ▸ diffBack v d S w h
theorem small_tree {l : List Row} (h : rowsErr l = 0) : (flatL (treeL l)).length ≤ 2000000 := by
  rw [flat_tree]
  have := (ok_rise h).1
  omega

def chL : List Change := [(2, 5, 6), (7, 0, -1), (8, -1, 1)]
def otherL : List Row := [(2, 6), (8, 1), (9, 30)]
theorem ch_is : diffP (treeL fewL) (treeL otherL) = (chL, 0) := by
  rw [diff_trees (by decide) (by decide)]
  decide

set_option maxHeartbeats 4000000 in
theorem diffBegun (w : World) : Calls Try.prog 25 #[] w (Ret w fun r _ => r = .bool true) := by
  have hg := chgGuard
  have heq := chgEqual (7, -1, 0) (7, -1, 0)
  simp only [decide_true] at heq
  go_enter Try.func25, Try.ntmps25
  go_wp2_with fail
  refine (lawFew _).mono ?_; rintro e w1 ⟨v1, rfl, h1, b1⟩
  have s1 := b1.size
  go_wp2_with fail
  refine (treeBuildOk v1 _ w1 h1 (by decide)).mono ?_; rintro e w2 ⟨_, rfl, ⟨x2, rfl, h2⟩, b2⟩
  have b02 := b1.trans (b2.mono s1)
  have s2 := b02.size
  go_wp2_with fail
  refine (treeBuildOk _ _ _ (rowsLit w2 otherL (by decide) (by decide)) (by decide)).mono ?_; rintro e w3 ⟨_, rfl, ⟨x3, rfl, h3⟩, b3⟩
  have b23 := ((Below.refl w2.heap.size w2).alloc (Nat.le_refl _) _).trans (b3.mono (by simp))
  have b03 := b02.trans (b23.mono s2)
  have s3 := b03.size
  go_wp2_with fail
  refine (diffOf_is x2 x3 _ _ _ _ w3 (h2.call b23) h3 (small_tree (by decide)) (small_tree (by decide)) ch_is).mono ?_; rintro e w4 ⟨_, rfl, ⟨x4, rfl, h4⟩, b4⟩
  have b04 := b03.trans (b4.mono s3)
  have s4 := b04.size
  clear h2 h3 b23 b3 b2 h1
  go_wp2_with fail
  refine (lawFew _).mono ?_; rintro e w5 ⟨v5, rfl, h5, b5⟩
  have b05 := b04.trans (b5.mono s4)
  have s5 := b05.size
  have h45 := h4.call b5
  go_wp2_with fail
  refine (diffPatch_is v5 x4 fewL chL _ _ w5 h5 h45 (c := (otherL, 0)) (by decide)).mono ?_; rintro e w6 ⟨_, rfl, ⟨x6, rfl, h6⟩, b6⟩
  have b06 := b05.trans (b6.mono s5)
  have s6 := b06.size
  have h46 := h45.call b6
  go_wp2_with fail
  refine (diffBack_is x4 chL _ w6 h46 (c := (chL.map swapC, 0)) (by decide)).mono ?_; rintro e w7 ⟨_, rfl, ⟨x7, rfl, h7⟩, b7⟩
  have b07 := b06.trans (b7.mono s6)
  have s7 := b07.size
  have h47 := h46.call b7
  have h67 := h6.call b7
  clear h4 h45 h46 h5 h6 b5 b6 b7
  go_wp2_with fail
  refine (lawFew _).mono ?_; rintro e w8 ⟨v8, rfl, h8, b8⟩
  have b08 := b07.trans (b8.mono s7)
  have s8 := b08.size
  have h48 := h47.call b8
  have h68 := h67.call b8
  have h78 := h7.call b8
  go_wp2_with fail
  refine (diffPatch_is v8 x7 fewL _ _ _ w8 h8 h78 (c := ([], 7)) (by decide)).mono ?_; rintro e w9 ⟨_, rfl, ⟨x9, rfl, h9⟩, b9⟩
  have b09 := b08.trans (b9.mono s8)
  have s9 := b09.size
  have h49 := h48.call b9
  have h69 := h68.call b9
  have h79 := h78.call b9
  clear h47 h48 h67 h68 h7 h78 h8 h9 b8
  go_wp2_with fail
  refine (diffBack_is _ [(1, 2, 2)] _ _ (chgsLit w9 [(1, 2, 2)] (by decide) (by decide)) (c := ([], 1)) (by decide)).mono ?_; rintro e w10 ⟨_, rfl, ⟨x10, rfl, _⟩, b10⟩
  have b910 := ((Below.refl w9.heap.size w9).alloc (Nat.le_refl _) _).trans (b10.mono (by simp))
  have b010 := b09.trans (b910.mono s9)
  have s10 := b010.size
  have h4t := h49.call b910
  have h6t := h69.call b910
  have h7t := h79.call b910
  clear h49 h69 h79 b910 b10
  obtain ⟨a6, c6, rfl, _, _, _⟩ := h6t.shapeAt 3 rfl
  obtain ⟨a7, c7, rfl, _, _, _⟩ := h7t.shapeAt 3 rfl
  go_wp2_with fail
  refine (refSameChanges_of x4 _ chL chL _ _ _ (h4t.call ((Below.refl w10.heap.size w10).alloc (Nat.le_refl _) _)) (chgsLit w10 chL (by decide) (by decide)) (c := true) (by decide)).mono ?_; rintro e w11 ⟨rfl, d11⟩
  have hB : Below w10.heap.size w10 w11 := ((Below.refl w10.heap.size w10).alloc (Nat.le_refl _) _).trans (d11.below.mono (by simp))
  have h6u := h6t.call hB
  have h7u := h7t.call hB
  obtain ⟨p1, o1, i1, _, hp1, _, _, q0, q1⟩ := h6u.idxRow aRow 1 1 rfl (by decide)
  obtain ⟨p2, o2, i2, _, hp2, _, _, _, r0, r1, r2⟩ := h7u.idxChg aChg 1 1 rfl (by decide)
  simp only [otherL, chL, swapC, List.map_cons, List.getElem_cons_succ, List.getElem_cons_zero] at q0 q1 r0 r1 r2
  clear h4t h6t h7t h6u h7u
  go_wp2
  go_ret
  exact ⟨_, rfl, rfl, b010.trans (hB.mono s10)⟩

end Go.Pch
