/- Chapter 11: acts, what they do: plain words and laws. The walk of log.Do. -/
import Derived.Test.YtdclpbdmdpakkaaWa14
import Derived.Test.YtdclpbdmdpakkaaWa35
section
namespace Go.Pch
open Go.RowKit Go.Proofs

/-- An act: its kind, its two names, its changes. -/
abbrev Act := Int × ByteArray × ByteArray × List Change
/-- K1: Do's answer. -/
def doP (r : Repo) (x : Act) : Repo × Int :=
  if x.1 = 1 then jPut r x.2.1 x.2.2.2 else if x.1 = 2 then jBranch r x.2.1 x.2.2.1 else if x.1 = 3 then ((jJoin r x.2.1 x.2.2.1).1, (jJoin r x.2.1 x.2.2.1).2.2) else if x.1 = 4 then jDrop r x.2.1 else (noRepo, 8)
/-- An act that has an error changes nothing. -/
def stepP (r : Repo) (x : Act) : Repo := if (doP r x).2 = 0 then (doP r x).1 else r
/-- I1: Begin's answer. -/
def beginR : Repo := ([([], [])], [((ByteArray.mk #[109, 97, 105, 110]), 0)])
/-- K3: acts, done one behind the other. -/
def doneP (l : List Act) : Repo := l.foldl stepP beginR
theorem doneP_next {l : List Act} {k : Nat} {x : Act} (h : l[k]? = some x) : doneP (l.take (k + 1)) = stepP (doneP (l.take k)) x := by
  rw [List.take_add_one, h, doneP, List.foldl_append]; rfl
theorem doneP_snoc (l : List Act) (x : Act) : doneP (l ++ [x]) = stepP (doneP l) x := by rw [doneP, List.foldl_append]; rfl
theorem do_right {r s : Repo} {x : Act} (h : doP r x = (s, 0)) : Right r s x.2.1 := by
  rw [doP] at h
  split at h
  · exact put_right h
  · split at h
    · exact branch_right h
    · split at h
      · obtain ⟨h1, h2⟩ := Prod.mk.inj h
        exact join_right (c := (jJoin r x.2.1 x.2.2.1).2.1) (by rw [← h1, ← h2])
      · split at h
        · exact drop_right h
        · cases h
theorem step_right {r : Repo} {x : Act} (h : repoErr r = 0) : repoErr (stepP r x) = 0 := by
  rw [stepP]
  split
  · rename_i h0
    exact (do_right (r := r) (s := (doP r x).1) (x := x) (by rw [← h0])).2.1
  · exact h
theorem fold_right : ∀ (l : List Act) (r : Repo), repoErr r = 0 → repoErr (l.foldl stepP r) = 0
  | [], _, h => h
  | _ :: l, _, h => fold_right l _ (step_right h)
theorem begin_right : repoErr beginR = 0 := by
  unfold beginR repoErr
  decide +kernel
theorem done_right (l : List Act) : repoErr (doneP l) = 0 := fold_right l _ begin_right

end Go.Pch
end

section
namespace Go.Pch
open Go.RowKit Go.Proofs
set_option maxRecDepth 100000

/-- An act's value. -/
def AtAct (w : World) (S : Blk) (v : Value) (x : Act) : Prop := ∃ vd, v = .agg #[.int .i64 x.1, .string x.2.1, .string x.2.2.1, vd] ∧ Sl tChange w S vd x.2.2.2
theorem AtAct.call {w w' : World} {S : Blk} {v : Value} {x : Act} (h : AtAct w S v x) (hb : Below w.heap.size w w') : AtAct w' S v x := by
  obtain ⟨vd, h1, h2⟩ := h
  exact ⟨vd, h1, h2.call hb⟩
/-- A repo, an act and what comes, each in a box. -/
structure DoAt (w wB : World) (x0 x1 : Value) (k : Int) (a b : ByteArray) (vd : Value) : Prop where
  size : wB.heap.size = w.heap.size + 3
  low : Below w.heap.size w wB
  arg : wB.heap[w.heap.size]? = some (.cells #[x0, x1] 25)
  act : wB.heap[w.heap.size + 1]? = some (.cells #[.int .i64 k, .string a, .string b, vd] 46)
  res : wB.heap[w.heap.size + 1 + 1]? = some (.cells #[.slice none 0 0, .slice none 0 0] 25)
theorem doAt (w : World) (x0 x1 : Value) (k : Int) (a b : ByteArray) (vd : Value) : DoAt w (((w.alloc (.cells #[x0, x1] 25)).alloc (.cells #[.int .i64 k, .string a, .string b, vd] 46)).alloc (.cells #[.slice none 0 0, .slice none 0 0] 25)) x0 x1 k a b vd := by
  have e1 := heap_alloc_new (w.alloc (.cells #[x0, x1] 25)) (.cells #[.int .i64 k, .string a, .string b, vd] 46)
  rw [show (w.alloc (.cells #[x0, x1] 25)).heap.size = w.heap.size + 1 by simp] at e1
  have e2 := heap_alloc_new ((w.alloc (.cells #[x0, x1] 25)).alloc (.cells #[.int .i64 k, .string a, .string b, vd] 46)) (.cells #[.slice none 0 0, .slice none 0 0] 25)
  rw [show ((w.alloc (.cells #[x0, x1] 25)).alloc (.cells #[.int .i64 k, .string a, .string b, vd] 46)).heap.size = w.heap.size + 2 by simp] at e2
  exact ⟨by simp, (((Below.refl _ _).alloc (Nat.le_refl _) _).alloc (by simp) _).alloc (by simp; omega) _, (Below.heap_alloc _ _ _ (by simp; omega)).trans ((Below.heap_alloc _ _ _ (by simp)).trans (heap_alloc_new _ _)), (Below.heap_alloc _ _ _ (by simp)).trans e1, e2⟩
theorem DoAt.on {w wB W : World} {x0 x1 vd : Value} {k : Int} {a b : ByteArray} (h : DoAt w wB x0 x1 k a b vd) (hb : Below wB.heap.size wB W) :
    (W.cell? ⟨w.heap.size, 0, none⟩ = some x0 ∧ W.cell? ⟨w.heap.size, 1, none⟩ = some x1) ∧
    (W.cell? ⟨w.heap.size + 1, 0, none⟩ = some (.int .i64 k) ∧ W.cell? ⟨w.heap.size + 1, 1, none⟩ = some (.string a) ∧ W.cell? ⟨w.heap.size + 1, 2, none⟩ = some (.string b) ∧ W.cell? ⟨w.heap.size + 1, 3, none⟩ = some vd) ∧
    W.cell? ⟨w.heap.size + 1 + 1, 0, none⟩ = some (.slice none 0 0) ∧ W.cell? ⟨w.heap.size + 1 + 1, 1, none⟩ = some (.slice none 0 0) ∧ ∀ i, W.frozen? ⟨w.heap.size + 1 + 1, i, none⟩ = false := by
  have hz := h.size
  have e1 := (hb.block w.heap.size (by omega)).trans h.arg
  have e2 := (hb.block (w.heap.size + 1) (by omega)).trans h.act
  have e3 := (hb.block (w.heap.size + 1 + 1) (by omega)).trans h.res
  exact ⟨⟨by rw [World.cell?, e1]; rfl, by rw [World.cell?, e1]; rfl⟩, ⟨by rw [World.cell?, e2]; rfl, by rw [World.cell?, e2]; rfl, by rw [World.cell?, e2]; rfl, by rw [World.cell?, e2]; rfl⟩, by rw [World.cell?, e3]; rfl, by rw [World.cell?, e3]; rfl, fun i => frozen_of_row W _ i _ _ e3⟩
theorem DoAt.fin {w wB W : World} {x0 x1 vd : Value} {k : Int} {a b : ByteArray} (h : DoAt w wB x0 x1 k a b vd) (hb : Below wB.heap.size wB W) (x y : Value) : ((W.setCell ⟨w.heap.size + 1 + 1, 0, none⟩ x).setCell ⟨w.heap.size + 1 + 1, 1, none⟩ y).heap[w.heap.size + 1 + 1]? = some (.cells #[x, y] 25) ∧
    Below w.heap.size w ((W.setCell ⟨w.heap.size + 1 + 1, 0, none⟩ x).setCell ⟨w.heap.size + 1 + 1, 1, none⟩ y) := by
  have hz := h.size
  have e2 := (hb.block (w.heap.size + 1 + 1) (by omega)).trans h.res
  exact ⟨heap_setCell_same _ _ 1 _ _ y (heap_setCell_same W _ 0 _ _ x e2), ((h.low.trans (hb.mono (by omega))).setCell (by simp; omega) _).setCell (by simp; omega) _⟩
theorem DoAt.rp {w wB W : World} {x0 x1 vd : Value} {k : Int} {a b : ByteArray} (h : DoAt w wB x0 x1 k a b vd) {x y : Value} {r : Repo} (g : Rp W (fun k => wB.heap.size ≤ k) (.agg #[x, y]) r) : Rp ((W.setCell ⟨w.heap.size + 1 + 1, 0, none⟩ x).setCell ⟨w.heap.size + 1 + 1, 1, none⟩ y) (fun k => w.heap.size ≤ k) (.agg #[x, y]) r := by
  have hz := h.size
  obtain ⟨_, _, hv, x1, x2⟩ := g.keep (w' := (W.setCell ⟨w.heap.size + 1 + 1, 0, none⟩ x).setCell ⟨w.heap.size + 1 + 1, 1, none⟩ y) fun k hk _ => (heap_setCell_other _ _ _ _ (by simp; omega)).trans (heap_setCell_other _ _ _ _ (by simp; omega))
  exact ⟨_, _, hv, x1.mono fun k hk _ => by omega, x2.mono fun k hk _ => by omega⟩

set_option maxHeartbeats 1000000 in
theorem logDo (v u : Value) (r : Repo) (x : Act) (S S' : Blk) (w : World) (h : Rp w S v r) (g : AtAct w S' u x) :
    Calls Try.prog 20 #[v, u] w (Ret w (RepoRet w.heap.size (doP r x))) := by
  obtain ⟨c, hc⟩ : ∃ c, doP r x = c := ⟨_, rfl⟩
  rw [hc]
  have hR := h
  obtain ⟨vc, vh, rfl, h1, h2⟩ := h
  obtain ⟨ac, cc, hvc, _, _, _⟩ := h1.shape
  obtain ⟨ah, ch, hvh, _, _, _⟩ := h2.shape
  generalize r.1.length = nc at hvc
  generalize r.2.length = nh at hvh
  subst hvc hvh
  obtain ⟨k, a, b, d⟩ := x
  obtain ⟨vd, rfl, hd⟩ := g
  obtain ⟨ad, cd, hvd, _, _, _⟩ := hd.shape
  simp only at hvd hd
  generalize d.length = nd at hvd
  subst hvd
  simp only
  have hX := doAt w (.slice ac nc cc) (.slice ah nh ch) k a b (.slice ad nd cd)
  obtain ⟨wB, hwB⟩ : ∃ wB, wB = ((w.alloc (.cells #[.slice ac nc cc, .slice ah nh ch] 25)).alloc (.cells #[.int .i64 k, .string a, .string b, .slice ad nd cd] 46)).alloc (.cells #[.slice none 0 0, .slice none 0 0] 25) := ⟨_, rfl⟩
  rw [← hwB] at hX
  have HWB := keepBack hwB
  clear hwB
  have zB := hX.size
  have hRB := hR.call hX.low
  have hdB := hd.call hX.low
  rw [doP] at hc
  simp only at hc
  by_cases k1 : k = 1
  · subst k1
    rw [if_pos rfl] at hc
    go_enter Try.func20, Try.ntmps20
    go_wp2_with fail
    rw [← HWB.out]
    refine (workPut_of _ _ r a d _ _ wB hRB hdB hc).mono ?_; rintro e w1 ⟨_, rfl, hret, b1⟩
    obtain ⟨y, rfl, hy⟩ := hret
    obtain ⟨v1, v2, rfl, hy1, hy2⟩ := hy
    obtain ⟨a1, c1, hv1, _, _, _⟩ := hy1.shape
    obtain ⟨a2, c2, hv2, _, _, _⟩ := hy2.shape
    generalize c.1.1.length = n1 at hv1
    generalize c.1.2.length = n2 at hv2
    subst hv1 hv2
    obtain ⟨_, _, y2, y3, yf⟩ := hX.on b1
    go_wp2_with fail
    refine bodyPost_ret (repoResults rfl _ _ _ _ _ _ _ rfl rfl (hX.fin b1 _ _).1) rfl ?_
    exact ⟨_, rfl, ⟨_, rfl, hX.rp ⟨_, _, rfl, hy1, hy2⟩⟩, (hX.fin b1 _ _).2⟩
  · rw [if_neg k1] at hc
    by_cases k2 : k = 2
    · subst k2
      rw [if_pos rfl] at hc
      clear k1
      go_enter Try.func20, Try.ntmps20
      go_wp2_with fail
      rw [← HWB.out]
      refine (workBranch_of _ r a b _ wB hRB hc).mono ?_; rintro e w1 ⟨_, rfl, hret, b1⟩
      obtain ⟨y, rfl, hy⟩ := hret
      obtain ⟨v1, v2, rfl, hy1, hy2⟩ := hy
      obtain ⟨a1, c1, hv1, _, _, _⟩ := hy1.shape
      obtain ⟨a2, c2, hv2, _, _, _⟩ := hy2.shape
      generalize c.1.1.length = n1 at hv1
      generalize c.1.2.length = n2 at hv2
      subst hv1 hv2
      obtain ⟨_, _, y2, y3, yf⟩ := hX.on b1
      go_wp2_with fail
      refine bodyPost_ret (repoResults rfl _ _ _ _ _ _ _ rfl rfl (hX.fin b1 _ _).1) rfl ?_
      exact ⟨_, rfl, ⟨_, rfl, hX.rp ⟨_, _, rfl, hy1, hy2⟩⟩, (hX.fin b1 _ _).2⟩
    · rw [if_neg k2] at hc
      by_cases k3 : k = 3
      · subst k3
        rw [if_pos rfl] at hc
        clear k1 k2
        obtain ⟨q, hq⟩ : ∃ q, jJoin r a b = q := ⟨_, rfl⟩
        rw [hq] at hc
        subst hc
        go_enter Try.func20, Try.ntmps20
        go_wp2_with fail
        rw [← HWB.out]
        refine (workMerge_of _ r a b _ wB hRB hq).mono ?_; rintro e w1 ⟨_, rfl, ⟨y, z, rfl, hy, hz⟩, b1⟩
        obtain ⟨v1, v2, rfl, hy1, hy2⟩ := hy
        obtain ⟨a1, c1, hv1, _, _, _⟩ := hy1.shape
        obtain ⟨a2, c2, hv2, _, _, _⟩ := hy2.shape
        generalize q.1.1.length = n1 at hv1
        generalize q.1.2.length = n2 at hv2
        subst hv1 hv2
        obtain ⟨az, cz, hvz, _, _, _⟩ := hz.shape
        generalize q.2.1.length = nz at hvz
        subst hvz
        have b2 : Below wB.heap.size wB (w1.alloc (.cells #[.slice a1 n1 c1, .slice a2 n2 c2] 25)) := b1.alloc b1.size _
        have bo := (Below.refl w1.heap.size w1).alloc (Nat.le_refl _) (.cells #[.slice a1 n1 c1, .slice a2 n2 c2] 25)
        obtain ⟨_, _, y2, y3, yf⟩ := hX.on b2
        go_wp2_with fail
        refine bodyPost_ret (repoResults rfl _ _ _ _ _ _ _ rfl rfl (hX.fin b2 _ _).1) rfl ?_
        exact ⟨_, rfl, ⟨_, rfl, hX.rp ⟨_, _, rfl, hy1.call bo, hy2.call bo⟩⟩, (hX.fin b2 _ _).2⟩
      · rw [if_neg k3] at hc
        by_cases k4 : k = 4
        · subst k4
          rw [if_pos rfl] at hc
          clear k1 k2 k3
          go_enter Try.func20, Try.ntmps20
          go_wp2_with fail
          rw [← HWB.out]
          refine (workDrop_of _ r a _ wB hRB hc).mono ?_; rintro e w1 ⟨_, rfl, hret, b1⟩
          obtain ⟨y, rfl, hy⟩ := hret
          obtain ⟨v1, v2, rfl, hy1, hy2⟩ := hy
          obtain ⟨a1, c1, hv1, _, _, _⟩ := hy1.shape
          obtain ⟨a2, c2, hv2, _, _, _⟩ := hy2.shape
          generalize c.1.1.length = n1 at hv1
          generalize c.1.2.length = n2 at hv2
          subst hv1 hv2
          obtain ⟨_, _, y2, y3, yf⟩ := hX.on b1
          go_wp2_with fail
          refine bodyPost_ret (repoResults rfl _ _ _ _ _ _ _ rfl rfl (hX.fin b1 _ _).1) rfl ?_
          exact ⟨_, rfl, ⟨_, rfl, hX.rp ⟨_, _, rfl, hy1, hy2⟩⟩, (hX.fin b1 _ _).2⟩
        · rw [if_neg k4] at hc
          subst hc
          go_enter Try.func20, Try.ntmps20
          obtain ⟨_, _, y2, y3, yf⟩ := hX.on (Below.refl _ _)
          rw [HWB.out] at y2 y3 yf
          go_wp2_with fail
          rw [← HWB.out]
          refine bodyPost_ret (repoResults rfl _ _ _ _ _ _ _ rfl rfl hX.res) rfl ?_
          exact ⟨_, rfl, ⟨_, rfl, noRepo_rp _ _⟩, hX.low⟩

end Go.Pch
end
