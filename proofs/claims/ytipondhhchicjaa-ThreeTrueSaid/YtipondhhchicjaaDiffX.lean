/- The walk of the law DiffNone. -/
import Derived.Test.YtipondhhchicjaaDiffW
namespace Go.Pch
open Go.RowKit Go.Proofs
set_option maxRecDepth 100000

theorem rowsFindIs {c : Int × Int} (v : Value) (l : List Row) (key : Int) (S : Blk) (w : World) (h : Sl tRow w S v l) (hc : findP l key = c) :
    Calls Try.prog 20 #[v, .int .i64 key] w (Ret w fun r _ => r = .tuple #[.int .i64 c.1, .int .i64 c.2]) := hc ▸ rowsFind v l key S w h

set_option maxHeartbeats 2000000 in
theorem lawDiffNone (v : Value) (a : List Row) (u : Value) (b : List Row) (k : Int) (w : World) (h : Sl tRow w (fun _ => True) v a) (g : Sl tRow w (fun _ => True) u b) (hk : i64ok k) :
    Calls Try.prog 9 #[v, u, .int .i64 k] w (Ret w fun r _ => r = .bool true) := by
  by_cases ha : rowsErr a = 0
  · by_cases hb : rowsErr b = 0
    · have hl := diff_len ha hb
      have hE := diff_empty ha hb
      have HAT := keepBack (fun c => diff_at (c := c) ha hb)
      have l1 := (ok_rise ha).1
      have l2 := (ok_rise hb).1
      have hv := h
      have gv := g
      obtain ⟨ao, cap, rfl, _, _, _⟩ := h.shape
      obtain ⟨ao', cap', rfl, _, _, _⟩ := g.shape
      go_enter Try.func9, Try.ntmps9
      go_wp2_with fail
      refine (treeBuildOk _ _ w hv ha).mono ?_; rintro e w1 ⟨_, rfl, ⟨x1, rfl, h1⟩, b1⟩
      have s1 := b1.size
      go_wp2_with fail
      refine (treeBuildOk _ _ w1 (gv.call b1) hb).mono ?_; rintro e w2 ⟨_, rfl, ⟨x2, rfl, h2⟩, b2⟩
      have b02 := b1.trans (b2.mono s1)
      have s2 := b02.size
      have h12 := h1.call b2
      go_wp2_with fail
      refine (diffOf_is x1 x2 _ _ _ _ w2 h12 h2 (small_tree ha) (small_tree hb) (diff_trees ha hb)).mono ?_; rintro e w3 ⟨_, rfl, ⟨x3, rfl, h3⟩, b3⟩
      have b03 := b02.trans (b3.mono s2)
      have s3 := b03.size
      have h13 := h12.call b3
      have h23 := h2.call b3
      have hv3 := h3
      generalize diffL (valueOf a) (valueOf b) = D at *
      obtain ⟨a3, c3, rfl, _, _, _⟩ := h3.shape
      have hwr : IntKind.i64.wrap ((a.length : Int) + (b.length : Int)) = (a.length : Int) + (b.length : Int) := by rw [IntKind.wrap_i64]; omega
      have hle : ((a.length : Int) + (b.length : Int) < (D.length : Int)) = False := by simp; omega
      by_cases hD : D = []
      · have hT : decide (treeL a = treeL b) = true := by simpa using hE.1 hD
        have hq : ((D.length : Int) == 0) = true := by rw [hD]; rfl
        clear hE hD
        go_wp2_with fail
        refine (refSameTrees_of x1 x2 _ _ _ _ w3 h13 h23 hT).mono ?_; rintro e w4 ⟨rfl, d4⟩
        have b04 := b03.trans (d4.below.mono s3)
        have s4 := b04.size
        go_wp2_with fail
        refine (diffBegun w4).mono ?_; rintro e w5 ⟨_, rfl, rfl, b5⟩
        go_wp2
        go_ret
        exact ⟨_, rfl, rfl, b04.trans (b5.mono s4)⟩
      · have hT : decide (treeL a = treeL b) = false := by simpa using fun e => hD (hE.2 e)
        have hpos := List.length_pos_iff.2 hD
        have hq : ((D.length : Int) == 0) = false := by rw [beq_eq_false_iff_ne]; omega
        obtain ⟨i, hi, hil⟩ : ∃ i : Nat, chooseL k D.length = (i : Int) ∧ i < D.length := by
          have := choose_bounds (c := k) (n := D.length) (by omega)
          exact ⟨(chooseL k D.length).toNat, by omega, by omega⟩
        obtain ⟨f1, f2, f3⟩ := HAT.out D[i] (List.getElem_mem hil)
        clear hE hD
        go_wp2_with fail
        refine (refSameTrees_of x1 x2 _ _ _ _ w3 h13 h23 hT).mono ?_; rintro e w4 ⟨rfl, d4⟩
        have b04 := b03.trans (d4.below.mono s3)
        have s4 := b04.size
        go_wp2_with fail
        refine (lawChoose k D.length w4 hk (by omega) (by omega)).mono ?_; rintro e w' ⟨rfl, rfl⟩
        rw [hi]
        obtain ⟨p, o, hix, _, hbs, ok1, ok2, ok3, hc0, hc1, hc2⟩ := (hv3.call d4.below).idxChg aChg i i rfl hil
        have hne : (D[i].2.1 != D[i].2.2) = true := by simpa using f3
        generalize D[i] = x at *
        clear f3
        have T := Cell3.alloc w4 42 x.1 x.2.1 x.2.2
        go_wp2_with fail
        generalize w4.alloc (Obj.cells #[Value.int IntKind.i64 x.1, Value.int IntKind.i64 x.2.1, Value.int IntKind.i64 x.2.2] 42) = w5 at *
        have b05 := b04.trans (T.low.mono s4)
        have s5 := b05.size
        have tl := T.lt
        refine (rowsFindIs _ a x.1 _ w5 (hv.call b05) f1).mono ?_; rintro e w6 ⟨_, rfl, rfl, b6⟩
        have t0 := (b6.cell (p := ⟨w4.heap.size, 0, none⟩) tl).trans T.cell0
        have b06 := b05.trans (b6.mono s5)
        have s6 := b06.size
        go_wp2_with fail
        refine (rowsFindIs _ b x.1 _ w6 (gv.call b06) f2).mono ?_; rintro e w7 ⟨_, rfl, rfl, b7⟩
        have b07 := b06.trans (b7.mono s6)
        have s7 := b07.size
        have b57 := b6.trans (b7.mono b6.size)
        clear t0
        go_wp2_with fail
        refine (diffBegun w7).mono ?_; rintro e w8 ⟨_, rfl, rfl, b8⟩
        have b58 := b57.trans (b8.mono b57.size)
        have u1 := (b58.cell (p := ⟨w4.heap.size, 1, none⟩) tl).trans T.cell1
        have u2 := (b58.cell (p := ⟨w4.heap.size, 2, none⟩) tl).trans T.cell2
        simp only at u1 u2
        go_wp2
        go_ret
        exact ⟨_, rfl, rfl, b07.trans (b8.mono s7)⟩
    · have hq : (rowsErr b != 0) = true := by simp [hb]
      go_enter Try.func9, Try.ntmps9
      go_wp2_with fail
      refine (treeBuildOk v _ w h ha).mono ?_; rintro e w1 ⟨_, rfl, ⟨x1, rfl, h1⟩, b1⟩
      have s1 := b1.size
      go_wp2_with fail
      refine (treeBuildBad u _ w1 (g.call b1) hb).mono ?_; rintro e w2 ⟨_, rfl, ⟨x2, rfl, h2⟩, b2⟩
      have b02 := b1.trans (b2.mono s1)
      have s2 := b02.size
      clear ha hb
      go_wp2_with fail
      refine (diffBegun w2).mono ?_; rintro e w3 ⟨_, rfl, rfl, b3⟩
      go_wp2
      go_ret
      exact ⟨_, rfl, rfl, b02.trans (b3.mono s2)⟩
  · have hq : (rowsErr a != 0) = true := by simp [ha]
    by_cases hb : rowsErr b = 0
    · go_enter Try.func9, Try.ntmps9
      go_wp2_with fail
      refine (treeBuildBad v _ w h ha).mono ?_; rintro e w1 ⟨_, rfl, ⟨x1, rfl, h1⟩, b1⟩
      have s1 := b1.size
      go_wp2_with fail
      refine (treeBuildOk u _ w1 (g.call b1) hb).mono ?_; rintro e w2 ⟨_, rfl, ⟨x2, rfl, h2⟩, b2⟩
      have b02 := b1.trans (b2.mono s1)
      have s2 := b02.size
      clear ha hb
      go_wp2_with fail
      refine (diffBegun w2).mono ?_; rintro e w3 ⟨_, rfl, rfl, b3⟩
      go_wp2
      go_ret
      exact ⟨_, rfl, rfl, b02.trans (b3.mono s2)⟩
    · go_enter Try.func9, Try.ntmps9
      go_wp2_with fail
      refine (treeBuildBad v _ w h ha).mono ?_; rintro e w1 ⟨_, rfl, ⟨x1, rfl, h1⟩, b1⟩
      have s1 := b1.size
      go_wp2_with fail
      refine (treeBuildBad u _ w1 (g.call b1) hb).mono ?_; rintro e w2 ⟨_, rfl, ⟨x2, rfl, h2⟩, b2⟩
      have b02 := b1.trans (b2.mono s1)
      have s2 := b02.size
      clear ha hb
      go_wp2_with fail
      refine (diffBegun w2).mono ?_; rintro e w3 ⟨_, rfl, rfl, b3⟩
      go_wp2
      go_ret
      exact ⟨_, rfl, rfl, b02.trans (b3.mono s2)⟩

end Go.Pch
