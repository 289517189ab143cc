/- The walks of the document's BackOf, PatchOf, DiffOf. -/
import Derived.Test.YtipondhhchicjaaDiffD
namespace Go.Pch
open Go.RowKit Go.Proofs
set_option maxRecDepth 100000

theorem refChangesFine_of {c : Bool} (v : Value) (l : List Change) (S : Blk) (w : World) (h : Sl tChange w S v l) (hc : fineC (-1) l = c) :
    Calls Try.prog 59 #[v] w (Quiet w (.bool c)) := hc ▸ refChangesFine v l S w h
theorem backP_bad {d : List Change} (h : fineC (-1) d = false) : backP d = ([], 1) := by rw [backP, h]; rfl
theorem backP_ok {d : List Change} (h : fineC (-1) d = true) : backP d = (d.map swapC, 0) := by rw [backP, if_pos h]

set_option maxHeartbeats 2000000 in
theorem refBackOf (v : Value) (l : List Change) (S : Blk) (w : World) (h : Sl tChange w S v l) :
    Calls Try.prog 29 #[v] w (Ret w fun r w' => ∃ x, r = .tuple #[x, .int .i64 (backP l).2] ∧ Sl tChange w' (fun k => w.heap.size ≤ k) x (backP l).1) := by
  have hv := h
  obtain ⟨ao, cap, rfl, hcap, hmax, hnil⟩ := h.shape
  unfold maxLen at hmax
  cases hf : fineC (-1) l with
  | false =>
    have HP := keepBack (backP_bad hf)
    go_enter Try.func29, Try.ntmps29
    go_wp2_with fail
    refine (refChangesFine_of _ l S w hv hf).mono ?_; rintro e w1 ⟨rfl, d1⟩
    go_wp2
    go_ret2
    exact ⟨_, rfl, ⟨_, by rw [HP.out]; rfl, by rw [HP.out]; exact Sl.nil _ _ _⟩, d1.below⟩
  | true =>
    have HP := keepBack (backP_ok hf)
    have hll := fineC_len hf (by omega)
    go_enter Try.func29, Try.ntmps29
    go_wp2_with fail
    refine (refChangesFine_of _ l S w hv hf).mono ?_; rintro e w1 ⟨rfl, d1⟩
    have b1 := d1.below
    have s1 := b1.size
    go_wp2_with fail
    go_loopw [4, 5] (fun out i wr => ∃ (k : Nat), k ≤ l.length ∧ i = .int .i64 k ∧ Below w.heap.size w wr ∧ Own tChange 42 wr w.heap.size (fun _ => False) out ((l.take k).map swapC)) (fun _ i _ => l.length - (intOf i).toNat)
    case atStart => exact ⟨0, Nat.zero_le _, rfl, b1, .nil⟩
    case round =>
      obtain ⟨k, hk, rfl, hbr, ho⟩ := hrel
      have hs := hbr.size
      by_cases hlt : k < l.length
      · obtain ⟨b, o, hix, hSb, hbs, ok1, ok2, ok3, hc0, hc1, hc2⟩ := hv.idxChg aChg k k rfl hlt
        have HN := keepBack (show (l.take (k + 1)).map swapC = (l.take k).map swapC ++ [swapC l[k]] by rw [List.take_succ_eq_append_getElem hlt, List.map_append]; rfl)
        have hlen : ((l.take k).map swapC).length = k := by simp; omega
        generalize (l.take k).map swapC = G at *
        have HL := keepBack (show G.length ≤ k by omega)
        clear hlen
        have hone : ∀ W, tChange.rd W (fun _ => False) [.int .i64 l[k].1, .int .i64 l[k].2.2, .int .i64 l[k].2.1] (swapC l[k]) := fun W => tChange_mk W _ _ _ _ ok1 ok3 ok2
        have HB : G.length + [swapC l[k]].length ≤ 1000000000000 := by have := HL.out; simp; omega
        have KS : ∀ W, Below w.heap.size w W → Below w.heap.size w W ∧ W.cell? ⟨b, o, none⟩ = some (.int .i64 l[k].1) ∧ W.cell? ⟨b, o + 1, none⟩ = some (.int .i64 l[k].2.1) ∧ W.cell? ⟨b, o + 2, none⟩ = some (.int .i64 l[k].2.2) := fun W hW => ⟨hW, (hW.cell (p := ⟨b, o, none⟩) hbs).trans hc0, (hW.cell (p := ⟨b, o + 1, none⟩) hbs).trans hc1, (hW.cell (p := ⟨b, o + 2, none⟩) hbs).trans hc2⟩
        have hoA : ∀ o, Own tChange 42 (wr.alloc o).drew w.heap.size (fun _ => False) _ G := fun o => (ho.alloc o).keep fun _ _ _ => rfl
        have hsA : ∀ o, w.heap.size ≤ (wr.alloc o).drew.heap.size := fun o => Nat.le_trans hs (Nat.le_of_lt (World.size_lt_alloc _ _))
        obtain ⟨a2, cp, rfl, _, _⟩ := ho.shape
        generalize hx : l[k] = x at *
        clear hc0 hc1 hc2
        go_wp2_with fail
        go_region_held3 (fun w' => Below w.heap.size w w' ∧ w'.cell? ⟨b, o, none⟩ = some (.int .i64 x.1) ∧ w'.cell? ⟨b, o + 1, none⟩ = some (.int .i64 x.2.1) ∧ w'.cell? ⟨b, o + 2, none⟩ = some (.int .i64 x.2.2))
          (first
            | exact KS _ hbr.drew
            | exact KS _ hbr
            | exact KS _ (by assumption)
            | exact KS _ (Below.alloc hbr.drew hs _)
            | exact KS _ (Below.alloc hbr hs _).drew
            | fail)
          (first
            | (refine step_grow rfl (.tmp 15) (.tmp 32) rfl aChg rfl (hoA _) rfl rfl (Src.one (hone wr) 42).drew nofun (fun _ h => h.elim) HB (hsA _) ?_; intro v5 w5 ho5 hg5; have hb5 : Below w.heap.size w w5 := (hbr.alloc hs _).drew.grown hg5 (hsA _) (fun g hg => (ho.block g hg).1))
            | fail)
        go_wp2
        go_roundw
        case rel => exact ⟨k + 1, by omega, by go_num, hb5, by rw [HN.out]; exact ho5⟩
        case measure => simp [intOf]; omega
      · have HE : Hid ((l.take k).map swapC = l.map swapC) := keepBack (by rw [List.take_of_length_le (by omega)])
        go_wp2
        go_ret2
        exact ⟨_, rfl, ⟨_, by rw [HP.out]; rfl, by rw [HP.out, ← HE.out]; exact ho.sl (fun _ h => h.elim) (fun _ h => h)⟩, hbr⟩

theorem refTreeError_of {c : Int} (v : Value) (t : List (List (List Row))) (S : Blk) (w : World) (h : Sl tRow.slice.slice w S v t) (hl : (flatL t).length ≤ 2000000) (hc : treeErr t = c) :
    Calls Try.prog 55 #[v] w (Ret w fun r _ => r = .int .i64 c) := hc ▸ refTreeError v t S w h hl

theorem refDiffOf (v u : Value) (a b : List (List (List Row))) (S S' : Blk) (w : World) (h : Sl tRow.slice.slice w S v a) (g : Sl tRow.slice.slice w S' u b) (hla : (flatL a).length ≤ 2000000) (hlb : (flatL b).length ≤ 2000000) :
    Calls Try.prog 24 #[v, u] w (Ret w fun r w' => ∃ x, r = .tuple #[x, .int .i64 (diffP a b).2] ∧ Sl tChange w' (fun k => w.heap.size ≤ k) x (diffP a b).1) := by
  by_cases ha : treeErr a = 0
  · by_cases hb : treeErr b = 0
    · have HP := keepBack (show diffP a b = (diffL (valueOf (flatL a)) (valueOf (flatL b)), 0) by rw [diffP, if_pos ha, if_pos hb])
      have ra := (ok_rise (treeErr_ok ha).1).2
      have rb := (ok_rise (treeErr_ok hb).1).2
      go_enter Try.func24, Try.ntmps24
      go_wp2_with fail
      refine (refTreeError_of v a S w h hla ha).mono ?_; rintro e w1 ⟨_, rfl, rfl, b1⟩
      have s1 := b1.size
      go_wp2_with fail
      refine (refTreeError_of u b S' w1 (g.call b1) hlb hb).mono ?_; rintro e w2 ⟨_, rfl, rfl, b2⟩
      have b02 := b1.trans (b2.mono s1)
      have s2 := b02.size
      go_wp2_with fail
      refine (refRowsOf v a S w2 (h.call b02) hla).mono ?_; rintro e w3 ⟨va, rfl, hfa, b3⟩
      have b03 := b02.trans (b3.mono s2)
      have s3 := b03.size
      go_wp2_with fail
      refine (refRowsOf u b S' w3 (g.call b03) hlb).mono ?_; rintro e w4 ⟨vb, rfl, hfb, b4⟩
      have b04 := b03.trans (b4.mono s3)
      have s4 := b04.size
      go_wp2_with fail
      refine (refDiffer va vb _ _ _ _ w4 (hfa.call b4) hfb ra rb).mono ?_; rintro e w5 ⟨vd, rfl, hd, b5⟩
      go_wp2
      go_ret2
      exact ⟨_, rfl, ⟨_, by rw [HP.out]; rfl, by rw [HP.out]; exact hd.mono fun k hk _ => Nat.le_trans s4 hk⟩, b04.trans (b5.mono s4)⟩
    · have HP := keepBack (show diffP a b = ([], treeErr b) by rw [diffP, if_pos ha, if_neg hb])
      have hq : (treeErr b != 0) = true := by simp [hb]
      go_enter Try.func24, Try.ntmps24
      go_wp2_with fail
      refine (refTreeError_of v a S w h hla ha).mono ?_; rintro e w1 ⟨_, rfl, rfl, b1⟩
      have s1 := b1.size
      go_wp2_with fail
      refine (refTreeError u b S' w1 (g.call b1) hlb).mono ?_; rintro e w2 ⟨_, rfl, rfl, b2⟩
      go_wp2
      go_ret2
      exact ⟨_, rfl, ⟨_, by rw [HP.out]; rfl, by rw [HP.out]; exact Sl.nil _ _ _⟩, b1.trans (b2.mono s1)⟩
  · have HP := keepBack (show diffP a b = ([], treeErr a) by rw [diffP, if_neg ha])
    have hq : (treeErr a != 0) = true := by simp [ha]
    go_enter Try.func24, Try.ntmps24
    go_wp2_with fail
    refine (refTreeError v a S w h hla).mono ?_; rintro e w1 ⟨_, rfl, rfl, b1⟩
    go_wp2
    go_ret2
    exact ⟨_, rfl, ⟨_, by rw [HP.out]; rfl, by rw [HP.out]; exact Sl.nil _ _ _⟩, b1⟩

end Go.Pch
