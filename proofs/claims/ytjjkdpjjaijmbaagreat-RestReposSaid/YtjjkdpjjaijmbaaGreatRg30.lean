/- The walk of log.Do. The walk of log.Write. -/
import Derived.Test.YtjjkdpjjaijmbaaGreatRg29
import Derived.Test.YtjjkdpjjaijmbaaGreatRg12
import Derived.Test.YtjjkdpjjaijmbaaGreatRg5
import Derived.Test.YtjjkdpjjaijmbaaGreatRg13
section
namespace Go.Pch
open Go.RowKit Go.Proofs
set_option maxRecDepth 100000

/-- An act's value. -/
def AtAct (w : World) (S : Blk) (v : Value) (x : Act) : Prop := ∃ vd, v = .agg #[.int .i64 x.1, .string x.2.1, .string x.2.2.1, vd] ∧ Sl tChange w S vd x.2.2.2
theorem AtAct.call {w w' : World} {S : Blk} {v : Value} {x : Act} (h : AtAct w S v x) (hb : Below w.heap.size w w') : AtAct w' S v x := by
  obtain ⟨vd, h1, h2⟩ := h
  exact ⟨vd, h1, h2.call hb⟩
/-- A repo, an act and what comes, each in a box. -/
structure DoAt (w wB : World) (x0 x1 : Value) (k : Int) (a b : ByteArray) (vd : Value) : Prop where
  size : wB.heap.size = w.heap.size + 3
  low : Below w.heap.size w wB
  arg : wB.heap[w.heap.size]? = some (.cells #[x0, x1] 25)
  act : wB.heap[w.heap.size + 1]? = some (.cells #[.int .i64 k, .string a, .string b, vd] 28)
  res : wB.heap[w.heap.size + 1 + 1]? = some (.cells #[.slice none 0 0, .slice none 0 0] 25)
theorem doAt (w : World) (x0 x1 : Value) (k : Int) (a b : ByteArray) (vd : Value) : DoAt w (((w.alloc (.cells #[x0, x1] 25)).alloc (.cells #[.int .i64 k, .string a, .string b, vd] 28)).alloc (.cells #[.slice none 0 0, .slice none 0 0] 25)) x0 x1 k a b vd := by
  have e1 := heap_alloc_new (w.alloc (.cells #[x0, x1] 25)) (.cells #[.int .i64 k, .string a, .string b, vd] 28)
  rw [show (w.alloc (.cells #[x0, x1] 25)).heap.size = w.heap.size + 1 by simp] at e1
  have e2 := heap_alloc_new ((w.alloc (.cells #[x0, x1] 25)).alloc (.cells #[.int .i64 k, .string a, .string b, vd] 28)) (.cells #[.slice none 0 0, .slice none 0 0] 25)
  rw [show ((w.alloc (.cells #[x0, x1] 25)).alloc (.cells #[.int .i64 k, .string a, .string b, vd] 28)).heap.size = w.heap.size + 2 by simp] at e2
  exact ⟨by simp, (((Below.refl _ _).alloc (Nat.le_refl _) _).alloc (by simp) _).alloc (by simp; omega) _, (Below.heap_alloc _ _ _ (by simp; omega)).trans ((Below.heap_alloc _ _ _ (by simp)).trans (heap_alloc_new _ _)), (Below.heap_alloc _ _ _ (by simp)).trans e1, e2⟩
theorem DoAt.on {w wB W : World} {x0 x1 vd : Value} {k : Int} {a b : ByteArray} (h : DoAt w wB x0 x1 k a b vd) (hb : Below wB.heap.size wB W) :
    (W.cell? ⟨w.heap.size, 0, none⟩ = some x0 ∧ W.cell? ⟨w.heap.size, 1, none⟩ = some x1) ∧
    (W.cell? ⟨w.heap.size + 1, 0, none⟩ = some (.int .i64 k) ∧ W.cell? ⟨w.heap.size + 1, 1, none⟩ = some (.string a) ∧ W.cell? ⟨w.heap.size + 1, 2, none⟩ = some (.string b) ∧ W.cell? ⟨w.heap.size + 1, 3, none⟩ = some vd) ∧
    W.cell? ⟨w.heap.size + 1 + 1, 0, none⟩ = some (.slice none 0 0) ∧ W.cell? ⟨w.heap.size + 1 + 1, 1, none⟩ = some (.slice none 0 0) ∧ ∀ i, W.frozen? ⟨w.heap.size + 1 + 1, i, none⟩ = false := by
  have hz := h.size
  have e1 := (hb.block w.heap.size (by omega)).trans h.arg
  have e2 := (hb.block (w.heap.size + 1) (by omega)).trans h.act
  have e3 := (hb.block (w.heap.size + 1 + 1) (by omega)).trans h.res
  exact ⟨⟨by rw [World.cell?, e1]; rfl, by rw [World.cell?, e1]; rfl⟩, ⟨by rw [World.cell?, e2]; rfl, by rw [World.cell?, e2]; rfl, by rw [World.cell?, e2]; rfl, by rw [World.cell?, e2]; rfl⟩, by rw [World.cell?, e3]; rfl, by rw [World.cell?, e3]; rfl, fun i => frozen_of_row W _ i _ _ e3⟩
theorem DoAt.fin {w wB W : World} {x0 x1 vd : Value} {k : Int} {a b : ByteArray} (h : DoAt w wB x0 x1 k a b vd) (hb : Below wB.heap.size wB W) (x y : Value) : ((W.setCell ⟨w.heap.size + 1 + 1, 0, none⟩ x).setCell ⟨w.heap.size + 1 + 1, 1, none⟩ y).heap[w.heap.size + 1 + 1]? = some (.cells #[x, y] 25) ∧
    Below w.heap.size w ((W.setCell ⟨w.heap.size + 1 + 1, 0, none⟩ x).setCell ⟨w.heap.size + 1 + 1, 1, none⟩ y) := by
  have hz := h.size
  have e2 := (hb.block (w.heap.size + 1 + 1) (by omega)).trans h.res
  exact ⟨heap_setCell_same _ _ 1 _ _ y (heap_setCell_same W _ 0 _ _ x e2), ((h.low.trans (hb.mono (by omega))).setCell (by simp; omega) _).setCell (by simp; omega) _⟩
theorem DoAt.rp {w wB W : World} {x0 x1 vd : Value} {k : Int} {a b : ByteArray} (h : DoAt w wB x0 x1 k a b vd) {x y : Value} {r : Repo} (g : Rp W (fun k => wB.heap.size ≤ k) (.agg #[x, y]) r) : Rp ((W.setCell ⟨w.heap.size + 1 + 1, 0, none⟩ x).setCell ⟨w.heap.size + 1 + 1, 1, none⟩ y) (fun k => w.heap.size ≤ k) (.agg #[x, y]) r := by
  have hz := h.size
  obtain ⟨_, _, hv, x1, x2⟩ := g.keep (w' := (W.setCell ⟨w.heap.size + 1 + 1, 0, none⟩ x).setCell ⟨w.heap.size + 1 + 1, 1, none⟩ y) fun k hk _ => (heap_setCell_other _ _ _ _ (by simp; omega)).trans (heap_setCell_other _ _ _ _ (by simp; omega))
  exact ⟨_, _, hv, x1.mono fun k hk _ => by omega, x2.mono fun k hk _ => by omega⟩

set_option maxHeartbeats 1000000 in
theorem logDo (v u : Value) (r : Repo) (x : Act) (S S' : Blk) (w : World) (h : Rp w S v r) (g : AtAct w S' u x) :
    Calls Tryz.prog 8 #[v, u] w (Ret w (RepoRet w.heap.size (doP r x))) := by
  obtain ⟨c, hc⟩ : ∃ c, doP r x = c := ⟨_, rfl⟩
  rw [hc]
  have hR := h
  obtain ⟨vc, vh, rfl, h1, h2⟩ := h
  obtain ⟨ac, cc, hvc, _, _, _⟩ := h1.shape
  obtain ⟨ah, ch, hvh, _, _, _⟩ := h2.shape
  generalize r.1.length = nc at hvc
  generalize r.2.length = nh at hvh
  subst hvc hvh
  obtain ⟨k, a, b, d⟩ := x
  obtain ⟨vd, rfl, hd⟩ := g
  obtain ⟨ad, cd, hvd, _, _, _⟩ := hd.shape
  simp only at hvd hd
  generalize d.length = nd at hvd
  subst hvd
  simp only
  have hX := doAt w (.slice ac nc cc) (.slice ah nh ch) k a b (.slice ad nd cd)
  obtain ⟨wB, hwB⟩ : ∃ wB, wB = ((w.alloc (.cells #[.slice ac nc cc, .slice ah nh ch] 25)).alloc (.cells #[.int .i64 k, .string a, .string b, .slice ad nd cd] 28)).alloc (.cells #[.slice none 0 0, .slice none 0 0] 25) := ⟨_, rfl⟩
  rw [← hwB] at hX
  have HWB := keepBack hwB
  clear hwB
  have zB := hX.size
  have hRB := hR.call hX.low
  have hdB := hd.call hX.low
  rw [doP] at hc
  simp only at hc
  by_cases k1 : k = 1
  · subst k1
    rw [if_pos rfl] at hc
    go_enter Tryz.func8, Tryz.ntmps8
    go_wp2_with fail
    rw [← HWB.out]
    refine (workPut_of _ _ r a d _ _ wB hRB hdB hc).mono ?_; rintro e w1 ⟨_, rfl, hret, b1⟩
    obtain ⟨y, rfl, hy⟩ := hret
    obtain ⟨v1, v2, rfl, hy1, hy2⟩ := hy
    obtain ⟨a1, c1, hv1, _, _, _⟩ := hy1.shape
    obtain ⟨a2, c2, hv2, _, _, _⟩ := hy2.shape
    generalize c.1.1.length = n1 at hv1
    generalize c.1.2.length = n2 at hv2
    subst hv1 hv2
    obtain ⟨_, _, y2, y3, yf⟩ := hX.on b1
    go_wp2_with fail
    refine bodyPost_ret (repoResults rfl _ _ _ _ _ _ _ rfl rfl (hX.fin b1 _ _).1) rfl ?_
    exact ⟨_, rfl, ⟨_, rfl, hX.rp ⟨_, _, rfl, hy1, hy2⟩⟩, (hX.fin b1 _ _).2⟩
  · rw [if_neg k1] at hc
    by_cases k2 : k = 2
    · subst k2
      rw [if_pos rfl] at hc
      clear k1
      go_enter Tryz.func8, Tryz.ntmps8
      go_wp2_with fail
      rw [← HWB.out]
      refine (workBranch_of _ r a b _ wB hRB hc).mono ?_; rintro e w1 ⟨_, rfl, hret, b1⟩
      obtain ⟨y, rfl, hy⟩ := hret
      obtain ⟨v1, v2, rfl, hy1, hy2⟩ := hy
      obtain ⟨a1, c1, hv1, _, _, _⟩ := hy1.shape
      obtain ⟨a2, c2, hv2, _, _, _⟩ := hy2.shape
      generalize c.1.1.length = n1 at hv1
      generalize c.1.2.length = n2 at hv2
      subst hv1 hv2
      obtain ⟨_, _, y2, y3, yf⟩ := hX.on b1
      go_wp2_with fail
      refine bodyPost_ret (repoResults rfl _ _ _ _ _ _ _ rfl rfl (hX.fin b1 _ _).1) rfl ?_
      exact ⟨_, rfl, ⟨_, rfl, hX.rp ⟨_, _, rfl, hy1, hy2⟩⟩, (hX.fin b1 _ _).2⟩
    · rw [if_neg k2] at hc
      by_cases k3 : k = 3
      · subst k3
        rw [if_pos rfl] at hc
        clear k1 k2
        obtain ⟨q, hq⟩ : ∃ q, jJoin r a b = q := ⟨_, rfl⟩
        rw [hq] at hc
        subst hc
        go_enter Tryz.func8, Tryz.ntmps8
        go_wp2_with fail
        rw [← HWB.out]
        refine (workMerge_of _ r a b _ wB hRB hq).mono ?_; rintro e w1 ⟨_, rfl, ⟨y, z, rfl, hy, hz⟩, b1⟩
        obtain ⟨v1, v2, rfl, hy1, hy2⟩ := hy
        obtain ⟨a1, c1, hv1, _, _, _⟩ := hy1.shape
        obtain ⟨a2, c2, hv2, _, _, _⟩ := hy2.shape
        generalize q.1.1.length = n1 at hv1
        generalize q.1.2.length = n2 at hv2
        subst hv1 hv2
        obtain ⟨az, cz, hvz, _, _, _⟩ := hz.shape
        generalize q.2.1.length = nz at hvz
        subst hvz
        have b2 : Below wB.heap.size wB (w1.alloc (.cells #[.slice a1 n1 c1, .slice a2 n2 c2] 25)) := b1.alloc b1.size _
        have bo := (Below.refl w1.heap.size w1).alloc (Nat.le_refl _) (.cells #[.slice a1 n1 c1, .slice a2 n2 c2] 25)
        obtain ⟨_, _, y2, y3, yf⟩ := hX.on b2
        go_wp2_with fail
        refine bodyPost_ret (repoResults rfl _ _ _ _ _ _ _ rfl rfl (hX.fin b2 _ _).1) rfl ?_
        exact ⟨_, rfl, ⟨_, rfl, hX.rp ⟨_, _, rfl, hy1.call bo, hy2.call bo⟩⟩, (hX.fin b2 _ _).2⟩
      · rw [if_neg k3] at hc
        by_cases k4 : k = 4
        · subst k4
          rw [if_pos rfl] at hc
          clear k1 k2 k3
          go_enter Tryz.func8, Tryz.ntmps8
          go_wp2_with fail
          rw [← HWB.out]
          refine (workDrop_of _ r a _ wB hRB hc).mono ?_; rintro e w1 ⟨_, rfl, hret, b1⟩
          obtain ⟨y, rfl, hy⟩ := hret
          obtain ⟨v1, v2, rfl, hy1, hy2⟩ := hy
          obtain ⟨a1, c1, hv1, _, _, _⟩ := hy1.shape
          obtain ⟨a2, c2, hv2, _, _, _⟩ := hy2.shape
          generalize c.1.1.length = n1 at hv1
          generalize c.1.2.length = n2 at hv2
          subst hv1 hv2
          obtain ⟨_, _, y2, y3, yf⟩ := hX.on b1
          go_wp2_with fail
          refine bodyPost_ret (repoResults rfl _ _ _ _ _ _ _ rfl rfl (hX.fin b1 _ _).1) rfl ?_
          exact ⟨_, rfl, ⟨_, rfl, hX.rp ⟨_, _, rfl, hy1, hy2⟩⟩, (hX.fin b1 _ _).2⟩
        · rw [if_neg k4] at hc
          subst hc
          go_enter Tryz.func8, Tryz.ntmps8
          obtain ⟨_, _, y2, y3, yf⟩ := hX.on (Below.refl _ _)
          rw [HWB.out] at y2 y3 yf
          go_wp2_with fail
          rw [← HWB.out]
          refine bodyPost_ret (repoResults rfl _ _ _ _ _ _ _ rfl rfl hX.res) rfl ?_
          exact ⟨_, rfl, ⟨_, rfl, noRepo_rp _ _⟩, hX.low⟩

end Go.Pch
end

section
namespace Go.Pch
open Go.RowKit Go.Proofs
set_option maxRecDepth 100000

/-- The bytes that the loop writes of a change, and its test. -/
def chgW (x : Change) : Bytes := enc1 x.1 ++ (enc2 (min x.2.1 65536 + 1) ++ enc2 (min x.2.2 65536 + 1))
def chgT (x : Change) : Bool := (((decide (x.2.1 < -1) || decide (x.2.2 < -1)) || decide (65536 < x.2.1)) || decide (65536 < x.2.2)) || (outN 1 x.1 || (outN 2 (min x.2.1 65536 + 1) || outN 2 (min x.2.2 65536 + 1)))
theorem chgT_is (x : Change) : chgT x = chgBad x := by
  have e : ∀ n : Int, outN 2 n = (decide (n < 0) || decide (65536 ≤ n)) := fun n => rfl
  rw [chgT, chgBad, e, e, e, e]
  cases outN 1 x.1 with
  | true => simp
  | false =>
    rw [Bool.eq_iff_iff]
    simp only [Bool.or_eq_true, decide_eq_true_eq, Bool.false_eq_true, false_or]
    omega
theorem chgW_is {x : Change} (h : chgBad x = false) : chgW x = chgBy x := by
  rw [← chgT_is, chgT] at h
  simp only [Bool.or_eq_false_iff, decide_eq_false_iff_not] at h
  rw [chgW, chgBy, show min x.2.1 65536 = x.2.1 by omega, show min x.2.2 65536 = x.2.2 by omega]

theorem chgT_first {x : Change} (h : x.2.1 < -1 ∨ x.2.2 < -1 ∨ 65536 < x.2.1 ∨ 65536 < x.2.2) : chgT x = true := by
  rw [chgT]
  rcases h with h | h | h | h <;> simp [h]
theorem chgT_rest {x : Change} (h1 : ¬ x.2.1 < -1) (h2 : ¬ x.2.2 < -1) (h3 : ¬ 65536 < x.2.1) (h4 : ¬ 65536 < x.2.2) : chgT x = (outN 1 x.1 || (outN 2 (min x.2.1 65536 + 1) || outN 2 (min x.2.2 65536 + 1))) := by
  rw [chgT, decide_eq_false h1, decide_eq_false h2, decide_eq_false h3, decide_eq_false h4]
  rfl
theorem len_chgW (l : List Change) : (l.flatMap chgW).length = 5 * l.length := by
  induction l with
  | nil => rfl
  | cons a l ih => rw [List.flatMap_cons, List.length_append, ih]; simp [chgW, enc1, enc2]; omega
/-- What Write answers, from what the loop has. -/
theorem actWP_is (k : Int) (a b : ByteArray) (d : List Change) {nd : Nat} {BASE : Bytes} {BAD : Bool} (hn : nd = d.length)
    (hB : enc1 k ++ enc1 a.size ++ a.data.toList ++ enc1 b.size ++ b.data.toList ++ enc1 nd = BASE) (hF : (((outN 1 k || outN 1 a.size) || outN 1 b.size) || outN 1 nd) = BAD) :
    actWP (k, a, b, d) = if (BAD || d.any chgT) = true then ([], 3) else (BASE ++ d.flatMap chgW, 0) := by
  subst hn
  have e1 : actBad (k, a, b, d) = (BAD || d.any chgT) := by
    rw [actBad, ← hF, show chgT = chgBad from funext chgT_is]
  rw [actWP, e1]
  split
  · rfl
  · rename_i h
    have h2 : d.any chgT = false := by
      cases hd : d.any chgT with
      | false => rfl
      | true => rw [hd] at h; simp at h
    rw [List.any_eq_false] at h2
    have e2 : d.flatMap chgW = d.flatMap chgBy := by
      have : ∀ l : List Change, (∀ x ∈ l, ¬ chgT x = true) → l.flatMap chgW = l.flatMap chgBy := by
        intro l
        induction l with
        | nil => intro _; rfl
        | cons y l ih =>
          intro hl
          rw [List.flatMap_cons, List.flatMap_cons, ih fun x hx => hl x (by simp [hx]), chgW_is (by rw [← chgT_is]; simpa using hl y (by simp))]
      exact this d h2
    rw [e2, actBy, ← hB]
    simp [List.append_assoc]
theorem litTwoAt (w : World) (a b : Int) (ha : i64ok a) (hb : i64ok b) (k : Nat) (hk : k = w.heap.size) : Sl tInt (w.alloc (.cells #[.int .i64 a, .int .i64 b] 3)) (fun k => w.heap.size ≤ k) (.slice (some ⟨k, 0, none⟩) 2 2) [a, b] := by
  subst hk
  exact (Own.lit (E := tInt) (e := 3) (B := w.heap.size) (C := fun _ => False) (xs := [[.int .i64 a], [.int .i64 b]]) ((Each.one (E := tInt) [.int .i64 a] a ⟨rfl, ha⟩).app (Each.one (E := tInt) [.int .i64 b] b ⟨rfl, hb⟩)) rfl (by simp [maxLen]) (Nat.le_refl _)).sl (fun _ h => h.elim) (fun _ h => h)
theorem penTwoP (pb B : Nat) (a b a' b' : Int) (w : World) (k : Nat) (hk : k = w.heap.size) (v : Value) (bs : Bytes) (bad : Bool) (hp : PenAt w B pb v bs bad) (ea : a' = a) (eb : b' = b) (ha : i64ok a) (hb : i64ok b) (hbs : bs.length ≤ 1000000000) :
    Calls Tryz.prog 36 #[.pointer (some ⟨pb, 0, none⟩), .int .i64 2, .slice (some ⟨k, 0, none⟩) 2 2] (w.alloc (.cells #[.int .i64 a', .int .i64 b'] 3)) fun e w' => e = .returned (.tuple #[]) ∧ ∃ v', PenAt w' B pb v' (bs ++ (enc2 a ++ enc2 b)) (bad || (outN 2 a || outN 2 b)) ∧ PenOn pb v v' w w' := by
  subst ea eb
  have hbl := (Below.refl w.heap.size w).alloc (Nat.le_refl _) (.cells #[.int .i64 a', .int .i64 b'] 3)
  refine (penPut2 pb B _ [a', b'] _ _ v bs bad (hp.call hbl) (litTwoAt w a' b' ha hb k hk) (fun k hk => hp.notNew hk) (by simp) hbs).mono ?_
  rintro e w' ⟨rfl, v', h1, h2⟩
  exact ⟨rfl, v', by simpa using h1, PenOn.trans (v' := v) ⟨Step.of_below hbl, fun g hg => .inl hg⟩ h2⟩

/-- The flag of a pen is set. -/
theorem PenAt.flag {w : World} {B pb : Nat} {v : Value} {bs : Bytes} {bad : Bool} (h : PenAt w B pb v bs bad) (c : Bool) : PenAt (w.setCell ⟨pb, 1, none⟩ (.bool c)) B pb v bs c := by
  refine ⟨h.low, by simpa using h.lt, heap_setCell_same w pb 1 _ _ _ h.row, h.own.keep fun k hk _ => heap_setCell_other _ _ _ _ ?_⟩
  rcases hk with hk | hk
  · exact hk.elim
  · intro e; exact h.apart (by rw [hk, e])
theorem PenOn.flag {pb : Nat} {v v' : Value} {w w' : World} (h : PenOn pb v v' w w') (c : Bool) : PenOn pb v v' w (w'.setCell ⟨pb, 1, none⟩ (.bool c)) :=
  ⟨h.1.on (Step.setCell _ _ (Or.inl rfl)), h.2⟩

set_option maxHeartbeats 1000000 in
theorem logWrite (u : Value) (x : Act) (S : Blk) (w : World) (g : AtAct w S u x) (hk : i64ok x.1) (ha : x.2.1.size ≤ 10000000) (hb : x.2.2.1.size ≤ 10000000) (hl : x.2.2.2.length ≤ 10000000) :
    Calls Tryz.prog 19 #[u] w (Ret w fun y _ => y = .tuple #[.string (bl (actWP x).1), .int .i64 (actWP x).2]) := by
  obtain ⟨z, hz⟩ : ∃ z, actWP x = z := ⟨_, rfl⟩
  rw [hz]
  have HZ := keepBack hz
  clear hz
  obtain ⟨k, a, b, d⟩ := x
  obtain ⟨vd, rfl, hd⟩ := g
  obtain ⟨ad, cd, hvd, _, _, _⟩ := hd.shape
  simp only at hvd hd hk ha hb hl
  obtain ⟨nd, hnd⟩ : ∃ n, n = d.length := ⟨_, rfl⟩
  rw [← hnd] at hvd hl
  have HND := keepBack hnd
  clear hnd
  subst hvd
  simp only
  obtain ⟨wA, hwA⟩ : ∃ wA, wA = w.alloc (.cells #[.int .i64 k, .string a, .string b, .slice ad nd cd] 28) := ⟨_, rfl⟩
  have bA : Below w.heap.size w wA := by rw [hwA]; exact (Below.refl _ _).alloc (Nat.le_refl _) _
  have sA : wA.heap.size = w.heap.size + 1 := by rw [hwA]; simp
  have rA : wA.heap[w.heap.size]? = some (.cells #[.int .i64 k, .string a, .string b, .slice ad nd cd] 28) := by rw [hwA]; exact heap_alloc_new _ _
  have KB : Hid (∀ W, Below wA.heap.size wA W → W.cell? ⟨w.heap.size, 0, none⟩ = some (.int .i64 k) ∧ W.cell? ⟨w.heap.size, 1, none⟩ = some (.string a) ∧ W.cell? ⟨w.heap.size, 2, none⟩ = some (.string b) ∧ W.cell? ⟨w.heap.size, 3, none⟩ = some (.slice ad nd cd)) := keepBack fun W hW => by
    have e := (hW.block w.heap.size (by omega)).trans rA
    exact ⟨by rw [World.cell?, e]; rfl, by rw [World.cell?, e]; rfl, by rw [World.cell?, e]; rfl, by rw [World.cell?, e]; rfl⟩
  have HWA := keepBack hwA
  clear hwA
  have bP := (Below.refl wA.heap.size wA).alloc (Nat.le_refl _) (.cells #[.slice none 0 0, .bool false] 77)
  have hpen : PenAt (wA.alloc (.cells #[.slice none 0 0, .bool false] 77)) wA.heap.size wA.heap.size (.slice none 0 0) [] false := ⟨Nat.le_refl _, by simp, heap_alloc_new _ _, Own.nil⟩
  obtain ⟨q0, q1, q2, q3⟩ := KB.out _ bP
  rw [HWA.out] at q0 q1 q2 q3
  go_enter Tryz.func19, Tryz.ntmps19
  go_wp2_with fail
  rw [← HWA.out]
  rw [sA] at hpen
  have KP : Hid (∀ v' W, PenOn (w.heap.size + 1) (.slice none 0 0) v' (wA.alloc (.cells #[.slice none 0 0, .bool false] 77)) W → Below wA.heap.size wA W) := keepBack fun v' W hW =>
    bP.trans (hW.1.below (fun k hk => by
      rcases hk with hk | hk
      · omega
      · simp [Value.ownBlock] at hk) (by simp))
  clear q0 q1 q2 q3
  generalize hwP : wA.alloc (.cells #[.slice none 0 0, .bool false] 77) = wP at *
  have sP : w.heap.size + 1 + 1 = wP.heap.size := by rw [← hwP]; simp [sA]
  have SP := keepBack sP
  clear hwP sP
  refine (penOneL (w.heap.size + 1) (w.heap.size + 1) _ wP _ SP.out _ _ _ hpen hk (by simp)).mono ?_; rintro e w2 ⟨rfl, v2, hp2, on2⟩
  simp only [List.nil_append, Bool.false_or] at hp2
  have b2 := KP.out _ _ on2
  obtain ⟨q0, q1, q2, q3⟩ := KB.out w2 b2
  have l1 : (enc1 k).length = 1 := rfl
  go_wp2_with fail
  refine (penText (w.heap.size + 1) (w.heap.size + 1) a w2 v2 _ _ hp2 (by omega) (by omega)).mono ?_; rintro e w3 ⟨rfl, v3, hp3, on3⟩
  have on03 := on2.trans on3
  have b3 := KP.out _ _ on03
  clear q0 q1 q2 q3
  obtain ⟨q0, q1, q2, q3⟩ := KB.out w3 b3
  have l2 : (enc1 k ++ enc1 a.size ++ a.data.toList).length = 2 + a.size := by
    have e : a.data.toList.length = a.size := Array.length_toList
    simp [enc1, e]
    omega
  go_wp2_with fail
  refine (penText (w.heap.size + 1) (w.heap.size + 1) b w3 v3 _ _ hp3 (by omega) (by omega)).mono ?_; rintro e w4 ⟨rfl, v4, hp4, on4⟩
  have on04 := on03.trans on4
  have b4 := KP.out _ _ on04
  clear q0 q1 q2 q3
  obtain ⟨q0, q1, q2, q3⟩ := KB.out w4 b4
  have l3 : (enc1 k ++ enc1 a.size ++ a.data.toList ++ enc1 b.size ++ b.data.toList).length = 3 + a.size + b.size := by
    have e : a.data.toList.length = a.size := Array.length_toList
    have e' : b.data.toList.length = b.size := Array.length_toList
    simp [enc1, e, e']
    omega
  go_wp2_with fail
  refine (penOneL (w.heap.size + 1) (w.heap.size + 1) _ w4 _ rfl _ _ _ hp4 (by unfold i64ok; omega) (by omega)).mono ?_; rintro e w5 ⟨rfl, v5, hp5, on5⟩
  have on05 := on04.trans on5
  have b5 := KP.out _ _ on05
  clear q0 q1 q2 q3
  obtain ⟨q0, q1, q2, q3⟩ := KB.out w5 b5
  have hdO := (hd.call bA).old
  go_wp2_with fail
  have hBL : (enc1 k ++ enc1 a.size ++ a.data.toList ++ enc1 b.size ++ b.data.toList ++ enc1 nd).length ≤ 20000010 := by
    rw [List.length_append, l3, show (enc1 (nd : Int)).length = 1 from rfl]; omega
  generalize hBASE : enc1 k ++ enc1 a.size ++ a.data.toList ++ enc1 b.size ++ b.data.toList ++ enc1 nd = BASE at *
  generalize hBAD : (((outN 1 k || outN 1 a.size) || outN 1 b.size) || outN 1 nd) = BAD at *
  have HBASE := keepBack hBASE
  have HBAD := keepBack hBAD
  clear hBASE hBAD
  go_loopw [6, 31] (fun _ iv wr => ∃ (j : Nat) (vr : Value), j ≤ nd ∧ iv = .int .i64 j ∧ PenAt wr (w.heap.size + 1) (w.heap.size + 1) vr (BASE ++ (d.take j).flatMap chgW) (BAD || (d.take j).any chgT) ∧ PenOn (w.heap.size + 1) (.slice none 0 0) vr wP wr) (fun _ iv _ => nd - (intOf iv).toNat)
  case atStart => exact ⟨0, v5, Nat.zero_le _, rfl, by simpa using hp5, on05⟩
  case round =>
    obtain ⟨j, vr, hj, rfl, hpr, onr⟩ := hrel
    have bW := KP.out _ _ onr
    have zW := bW.size
    have hlp := hpr.lt
    by_cases hlt : j < nd
    · obtain ⟨y, hy⟩ : ∃ y, d[j]? = some y := ⟨d[j]'(by have := HND.out; omega), List.getElem?_eq_getElem _⟩
      obtain ⟨bc, oc, hix, _, hbc, ok1, ok2, ok3, hc0, hc1, hc2⟩ := (hd.call (bA.trans (bW.mono (by omega)))).idxChgAt aChg j j y rfl hy
      have hjI : (j : Int) < nd := by omega
      have hrow := hpr.row
      have bD := (Below.refl wr.heap.size wr).alloc (Nat.le_refl _) (.cells #[.int .i64 y.1, .int .i64 y.2.1, .int .i64 y.2.2] 59)
      have hpD := hpr.row
      have cB : (wr.alloc (.cells #[.int .i64 y.1, .int .i64 y.2.1, .int .i64 y.2.2] 59)).cell? ⟨w.heap.size + 1, 1, none⟩ = some (.bool (BAD || (d.take j).any chgT)) := (bD.cell (p := ⟨w.heap.size + 1, 1, none⟩) hlp).trans (by rw [World.cell?, hrow]; rfl)
      have cF : (wr.alloc (.cells #[.int .i64 y.1, .int .i64 y.2.1, .int .i64 y.2.2] 59)).frozen? ⟨w.heap.size + 1, 1, none⟩ = false := frozen_of_row _ _ _ _ _ ((bD.block _ hlp).trans hrow)
      generalize hB : (BAD || (d.take j).any chgT) = B at *
      have hbl : (BASE ++ (d.take j).flatMap chgW).length ≤ 80000000 := by
        have h0 : (d.take j).length ≤ 10000000 := by rw [List.length_take]; omega
        rw [List.length_append, len_chgW]; omega
      have hnx : (d.take (j + 1)).flatMap chgW = (d.take j).flatMap chgW ++ chgW y := by rw [List.take_add_one, hy]; simp
      have hax : (BAD || (d.take (j + 1)).any chgT) = (B || chgT y) := by rw [← hB, List.take_add_one, hy]; simp [Bool.or_assoc]
      have HNX := keepBack hnx
      have HAX := keepBack hax
      clear hnx hax hB
      generalize (d.take j).flatMap chgW = DONE at *
      have KQ : Hid (∀ c, PenAt ((wr.setCell ⟨w.heap.size + 1, 1, none⟩ (.bool c)).alloc (.cells #[.int .i64 y.1, .int .i64 y.2.1, .int .i64 y.2.2] 59)) (w.heap.size + 1) (w.heap.size + 1) vr (BASE ++ DONE) c
          ∧ PenOn (w.heap.size + 1) (.slice none 0 0) vr wP ((wr.setCell ⟨w.heap.size + 1, 1, none⟩ (.bool c)).alloc (.cells #[.int .i64 y.1, .int .i64 y.2.1, .int .i64 y.2.2] 59))
          ∧ ∀ v' W, PenOn (w.heap.size + 1) vr v' ((wr.setCell ⟨w.heap.size + 1, 1, none⟩ (.bool c)).alloc (.cells #[.int .i64 y.1, .int .i64 y.2.1, .int .i64 y.2.2] 59)) W → W.cell? ⟨wr.heap.size, 1, none⟩ = some (.int .i64 y.2.1) ∧ W.cell? ⟨wr.heap.size, 2, none⟩ = some (.int .i64 y.2.2)) := keepBack fun c => by
        have e0 : ((wr.setCell ⟨w.heap.size + 1, 1, none⟩ (.bool c)).alloc (.cells #[.int .i64 y.1, .int .i64 y.2.1, .int .i64 y.2.2] 59)).heap[wr.heap.size]? = some (.cells #[.int .i64 y.1, .int .i64 y.2.1, .int .i64 y.2.2] 59) := by
          have := heap_alloc_new (wr.setCell ⟨w.heap.size + 1, 1, none⟩ (.bool c)) (.cells #[.int .i64 y.1, .int .i64 y.2.1, .int .i64 y.2.2] 59)
          simpa using this
        have hn := hpr.notNew (Nat.le_refl wr.heap.size)
        refine ⟨(hpr.flag c).call ((Below.refl _ _).alloc (Nat.le_refl _) _), (onr.flag c).alloc _, fun v' W hW => ⟨(hW.cell (p := ⟨wr.heap.size, 1, none⟩) (by simp) hn).trans ?_, (hW.cell (p := ⟨wr.heap.size, 2, none⟩) (by simp) hn).trans ?_⟩⟩
        · rw [World.cell?, e0]; rfl
        · rw [World.cell?, e0]; rfl
      have HT : Hid (B = true ∨ (B = false ∧ y.2.1 < -1) ∨ (B = false ∧ ¬ y.2.1 < -1 ∧ y.2.2 < -1) ∨ (B = false ∧ ¬ y.2.1 < -1 ∧ ¬ y.2.2 < -1 ∧ 65536 < y.2.1) ∨ (B = false ∧ ¬ y.2.1 < -1 ∧ ¬ y.2.2 < -1 ∧ ¬ 65536 < y.2.1 ∧ 65536 < y.2.2) ∨ (B = false ∧ ¬ y.2.1 < -1 ∧ ¬ y.2.2 < -1 ∧ ¬ 65536 < y.2.1 ∧ ¬ 65536 < y.2.2)) := keepBack (by cases B <;> simp <;> omega)
      rcases HT.out with h0 | ⟨h0, t1⟩ | ⟨h0, t1, t2⟩ | ⟨h0, t1, t2, t3⟩ | ⟨h0, t1, t2, t3, t4⟩ | ⟨h0, t1, t2, t3, t4⟩
      all_goals
        subst h0
        clear HT
        go_wp2_with fail
        refine (penOneL (w.heap.size + 1) (w.heap.size + 1) _ _ _ (by simp) vr _ _ (KQ.out _).1 ok1 (by omega)).mono ?_; rintro e w6 ⟨rfl, v6, hp6, on6⟩
        have on06 := (KQ.out _).2.1.trans on6
        obtain ⟨q6, q7⟩ := (KQ.out _).2.2 _ _ on6
        have hl6 : (BASE ++ DONE ++ enc1 y.1).length ≤ 80000001 := by rw [List.length_append, show (enc1 y.1).length = 1 from rfl]; omega
        clear cB cF hc0 hc1 hc2 hpD hrow bD
        have ok2' := ok2
        have ok3' := ok3
        unfold i64ok at ok2' ok3'
        by_cases m1 : 65536 < y.2.1 <;> by_cases m2 : 65536 < y.2.2 <;> first
          | (exfalso; omega)
          | skip
      all_goals
        go_wp2_with fail
        refine (penTwoP (w.heap.size + 1) (w.heap.size + 1) (min y.2.1 65536 + 1) (min y.2.2 65536 + 1) _ _ w6 _ rfl v6 _ _ hp6 (by omega) (by omega) (by unfold i64ok; omega) (by unfold i64ok; omega) (by omega)).mono ?_; rintro e w7 ⟨rfl, v7, hp7, on7⟩
        go_wp2
        go_roundw
        case rel =>
          refine ⟨j + 1, v7, by omega, by go_num, ?_, on06.trans on7⟩
          rw [HNX.out, HAX.out, chgW, ← List.append_assoc BASE, ← List.append_assoc (BASE ++ DONE)]
          first
            | (rw [chgT_first (by omega)]; simpa using hp7)
            | (rw [chgT_rest (by omega) (by omega) (by omega) (by omega), Bool.false_or]; simpa [Bool.or_assoc] using hp7)
            | (simpa using hp7)
        case measure => simp [intOf]; omega
    · have hjj : d.take j = d := List.take_of_length_le (by have := HND.out; omega)
      rw [hjj] at hpr
      clear hjj
      have hZ := HZ.out
      rw [actWP_is k a b d HND.out HBASE.out HBAD.out] at hZ
      have bL := bA.trans (bW.mono (by omega))
      have p1 := hpr.cell1
      cases hF : (BAD || d.any chgT) with
      | true =>
        rw [hF] at p1 hZ
        rw [if_pos rfl] at hZ
        subst hZ
        clear HZ
        go_wp2
        go_ret2
        exact ⟨_, rfl, rfl, bL⟩
      | false =>
        have h0 : 0 < (BASE ++ d.flatMap chgW).length := by
          rw [← HBASE.out]; simp [enc1]
        have htx := hpr.text h0
        have p0 := hpr.cell0
        rw [hF] at p1 hZ
        rw [if_neg (by decide)] at hZ
        subst hZ
        clear HZ
        go_wp2
        go_ret2
        exact ⟨_, rfl, rfl, bL⟩

end Go.Pch
end
