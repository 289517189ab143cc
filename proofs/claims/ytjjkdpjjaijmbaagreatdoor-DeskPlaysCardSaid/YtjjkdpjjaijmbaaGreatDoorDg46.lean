/- The walk of a line. (gen_dkq.py) -/
import Derived.Test.YtjjkdpjjaijmbaaGreatDoorDg45
import Derived.Deep.RegionHeld3
import Derived.Laws.EntriesVeiled
section
namespace Go.Pch
open Go.RowKit Go.Proofs
set_option maxRecDepth 100000
set_option linter.unusedSimpArgs false
set_option linter.unusedVariables false
def Late (V : Value) (D : List Deferred) (Z : List PanicEntry → World → Prop) (Q : Exit → Act → World → Prop) : Exit → Act → World → Prop
  | .panic ch, a, w => a.tmps.getD 4 undef = V ∧ a.defers = D ∧ Z ch w
  | e, a, w => Q e a w
theorem Late.put {V : Value} {D : List Deferred} {Z : List PanicEntry → World → Prop} {Q : Exit → Act → World → Prop} {ch : List PanicEntry} {a : Act} {w : World} {d : Nat} {v : Value} (hd : d ≠ 4) (h : Late V D Z Q (.panic ch) (a.put (some d) v) w) : Late V D Z Q (.panic ch) a w := by
  obtain ⟨h1, h2, h3⟩ := h
  refine ⟨?_, h2, h3⟩
  rw [← h1]
  simp [Act.put, Array.getElem?_setIfInBounds_ne hd]
theorem Late.normal {V : Value} {D : List Deferred} {Z : List PanicEntry → World → Prop} {Q : Exit → Act → World → Prop} {a : Act} {w : World} (h : Q .normal a w) : Late V D Z Q .normal a w := h
def LateZ [Zone] (T : Nat) (r : Repo) (o : Out) (w : World) (ch : List PanicEntry) (W : World) : Prop := ch = thrown o.2.2 ∧ o.2.2 ≠ 0 ∧ ∃ c, W.heap[w.heap.size]? = some (.cells #[.string c] 9) ∧ Step (fun k => k = T) w W ∧ Vars W ∧ DeskTab W T r
theorem lateImp [Zone] (T : Nat) (r : Repo) (o : Out) (w : World) (K : Act → World → Prop) (hT : T < w.heap.size) (ho : 0 ≤ o.2.2 ∧ i64ok o.2.2) :
    ∀ (e : Exit) (a : Act) (W : World), Late (.pointer (some ⟨w.heap.size, 0, none⟩)) [{ target := .fn (.func 25) #[.pointer (some ⟨w.heap.size, 0, none⟩)], args := #[] }] (LateZ T r o w) (Exit.then K (bodyPostD Tryz.prog Tryz.f12 (LinePost T w r o))) e a W →
      Exit.then K (bodyPostD Tryz.prog Tryz.f12 (LinePost T w r o)) e a W := by
  intro e a W h
  cases e with
  | panic ch =>
    obtain ⟨h4, hd, rfl, hp0, c, hr, hst, hV, hD⟩ := h
    show Leaves _ _ a.tmps _ a.defers _ W
    rw [hd]
    exact lineDies _ T r o w W c hp0 ho.1 ho.2 h4 hr hst hV hD hT
  | _ => exact h
theorem stepTwo {T O : Nat} {a b c : World} (h : Step (fun k => k = T) a b) (g : Step (fun k => k = O) b c) (hO : a.heap.size ≤ O) : Step (fun k => k = T) a c :=
  ⟨g.os.trans h.os, g.tape.trans h.tape, g.output.trans h.output, Nat.le_trans h.size g.size, fun k hk hn => (g.block k (Nat.lt_of_lt_of_le hk h.size) (by omega)).trans (h.block k hk hn)⟩
set_option maxHeartbeats 4000000 in
theorem lineNone [Zone] (T : Nat) (r : Repo) (s c : Bytes) (ws : List Bytes) (w : World) (hV : Vars w) (hD : DeskTab w T r) (hs : s.length ≤ 4096) (hws : spl s = c :: ws) (hwf : wordF c = none) :
    Calls Tryz.prog 12 #[.pointer (some ⟨T, 0, none⟩), .string (bl s)] w (LinePost T w r (noO 1)) := by
  obtain ⟨w1, hw1⟩ : ∃ w1, w1 = w.alloc (.cells #[.string ⟨#[]⟩] 9) := ⟨_, rfl⟩
  have e1 : w1.heap.size = w.heap.size + 1 := by rw [hw1]; simp
  have b1 : Below w.heap.size w w1 := by rw [hw1]; exact (Below.refl _ _).alloc (Nat.le_refl _) _
  have hr1 : w1.heap[w.heap.size]? = some (.cells #[.string ⟨#[]⟩] 9) := by rw [hw1]; exact heap_alloc_new w _
  have HW1 := keepBack hw1
  clear hw1
  have hT := hD.lt
  go_enter_defers Tryz.func12, Tryz.ntmps12
  go_wp2_with fail
  rw [← HW1.out]
  refine (deskSplit s hs w1 (hV.call b1)).mono ?_; rintro e w2 ⟨v, rfl, hv, b2⟩
  rw [hws] at hv
  have hv' : Sl tStr w2 (fun k => k ≠ T) v ((c :: ws).map bl) := hv.sl (fun _ h => h.elim) (fun k hk => by omega)
  obtain ⟨ao, cap, hvs, hcap, hmax, _⟩ := hv'.shape
  obtain ⟨Ln, hLn⟩ : ∃ Ln, Ln = ((c :: ws).map bl).length := ⟨_, rfl⟩
  rw [← hLn] at hvs hcap
  unfold maxLen at hmax
  subst hvs
  clear hLn hcap hmax
  obtain ⟨b0, o0, ix0, n0, l0, c0⟩ := hv'.idxStr aStr 0 0 (bl c) rfl rfl
  have b02 : Below w.heap.size w w2 := b1.trans (b2.mono (by omega))
  have S1 : ∀ W, Below w2.heap.size w2 W → W.cell? ⟨b0, o0, none⟩ = some (.string (bl c)) := fun W hW => (hW.cell (p := ⟨b0, o0, none⟩) l0).trans c0
  go_wp2_with fail
  refine wp_region_noPanic ?_
  refine wp_region_held (S := fun W => W.cell? ⟨b0, o0, none⟩ = some (.string (bl c))) (by kernel_rfl) ?_
  change wpAnyH _ _ _ _ _ _ _ _ (World.drew _)
  have b9 := (Below.refl w2.heap.size w2).drew
  refine wpAnyH_take (i := 0) (v := ?_) rfl (by kernel_rfl) (by kernel_rfl) (by kernel_rfl) (fun _ _ _ h => h) (Or.inl ⟨by rfl, ?hy1⟩) (S1 _ b9) ?rest1
  case hy1 => (intro W hW; obtain q1 := hW; go_simp; try with_reducible rfl)
  try simp only [Go.Act.put, List.setIfInBounds_toArray, List.set_cons_zero, List.set_cons_succ]
  refine wpAnyH_take (i := 2) (v := ?_) rfl (by kernel_rfl) (by kernel_rfl) (by kernel_rfl) (fun _ _ _ h => h) (Or.inl ⟨by rfl, ?hy2⟩) (S1 _ b9) ?rest2
  case hy2 => (intro W hW; obtain q1 := hW; go_simp; try with_reducible rfl)
  try simp only [Go.Act.put, List.setIfInBounds_toArray, List.set_cons_zero, List.set_cons_succ]
  refine wpAnyH_take (i := 3) (v := ?_) rfl (by kernel_rfl) (by kernel_rfl) (by kernel_rfl) (fun _ _ _ h => h) (Or.inl ⟨by rfl, ?hy3⟩) (S1 _ b9) ?rest3
  case hy3 => (intro W hW; obtain q1 := hW; go_simp; try with_reducible rfl)
  try simp only [Go.Act.put, List.setIfInBounds_toArray, List.set_cons_zero, List.set_cons_succ]
  refine wpAnyH_take (i := 4) (v := ?_) rfl (by kernel_rfl) (by kernel_rfl) (by kernel_rfl) (fun _ _ _ h => h) (Or.inl ⟨by rfl, ?hy4⟩) (S1 _ b9) ?rest4
  case hy4 => (intro W hW; obtain q1 := hW; go_simp; try with_reducible rfl)
  try simp only [Go.Act.put, List.setIfInBounds_toArray, List.set_cons_zero, List.set_cons_succ]
  refine wpAnyH_two (i := 1) (k := 9) (by kernel_rfl) rfl rfl (fun K hK => ?_) (fun K hK => ?_)
  · skip
    go_simp
    refine (deskWords T w2.drew).mono ?_; rintro e w3 ⟨M, cb, rfl, hcb, hM, b3⟩
    have b23 : Below w2.heap.size w2 w3 := b9.trans (b3.mono b9.size)
    refine hK _ _ (S1 _ b23) ?_
    clear hK K
    try simp only [Go.Act.put, List.setIfInBounds_toArray, List.set_cons_zero, List.set_cons_succ]
    refine wpAnyH_more (S' := fun W => W.cell? ⟨b0, o0, none⟩ = some (.string (bl c)) ∧ W.heap[M]? = some (.map (wordsL cb).toArray 9)) (fun _ h => h.1) _ _ _ _ ?_
    refine wpAnyH_take (i := 5) (v := ?_) rfl (by kernel_rfl) (by kernel_rfl) (by kernel_rfl) (fun _ _ _ h => h) (Or.inl ⟨by rfl, ?hy5⟩) ⟨S1 _ b23, hM⟩ ?rest5
    case hy5 => (intro W hW; obtain ⟨q1, q2⟩ := hW; have hlk := wordsNo hwf (cb := cb) (M := M) (W := W) q2; go_simp; try with_reducible rfl)
    try simp only [Go.Act.put, List.setIfInBounds_toArray, List.set_cons_zero, List.set_cons_succ]
    refine wpAnyH_take (i := 6) (v := ?_) rfl (by kernel_rfl) (by kernel_rfl) (by kernel_rfl) (fun _ _ _ h => h) (Or.inl ⟨by rfl, ?hy6⟩) ⟨S1 _ b23, hM⟩ ?rest6
    case hy6 => (intro W hW; obtain ⟨q1, q2⟩ := hW; go_simp; try with_reducible rfl)
    try simp only [Go.Act.put, List.setIfInBounds_toArray, List.set_cons_zero, List.set_cons_succ]
    refine wpAnyH_take (i := 7) (v := ?_) rfl (by kernel_rfl) (by kernel_rfl) (by kernel_rfl) (fun _ _ _ h => h) (Or.inl ⟨by rfl, ?hy7⟩) ⟨S1 _ b23, hM⟩ ?rest7
    case hy7 => (intro W hW; obtain ⟨q1, q2⟩ := hW; go_simp; try with_reducible rfl)
    try simp only [Go.Act.put, List.setIfInBounds_toArray, List.set_cons_zero, List.set_cons_succ]
    refine wpAnyH_take (i := 8) (v := ?_) rfl (by kernel_rfl) (by kernel_rfl) (by kernel_rfl) (fun _ _ _ h => h) (Or.inl ⟨by rfl, ?hy8⟩) ⟨S1 _ b23, hM⟩ ?rest8
    case hy8 => (intro W hW; obtain ⟨q1, q2⟩ := hW; go_simp; try with_reducible rfl)
    try simp only [Go.Act.put, List.setIfInBounds_toArray, List.set_cons_zero, List.set_cons_succ]
    have b34 : Below w3.heap.size w3 (w3.alloc (.cells #[.int .i64 0, .nilFunc] 69)) := (Below.refl _ _).alloc (Nat.le_refl _) _
    have hMl := (Array.getElem?_eq_some_iff.1 hM).1
    have b24 := b23.trans (b34.mono b23.size)
    refine wpAnyH_one (i := 9) (by kernel_rfl) rfl (fun K hK => ?_)
    go_simp
    refine hK _ _ ⟨S1 _ b24, (b34.block _ hMl).trans hM⟩ ?_
    clear hK K
    try simp only [Go.Act.put, List.setIfInBounds_toArray, List.set_cons_zero, List.set_cons_succ]
    obtain ⟨X, hX⟩ : ∃ X, X = w3.heap.size := ⟨_, rfl⟩
    obtain ⟨w4, hw4⟩ : ∃ w4, w4 = w3.alloc (.cells #[.int .i64 0, .nilFunc] 69) := ⟨_, rfl⟩
    have hx4 : w4.heap[X]? = some (.cells #[.int .i64 0, .nilFunc] 69) := by rw [hw4, hX]; exact heap_alloc_new w3 _
    have hM4 : w4.heap[M]? = some (.map (wordsL cb).toArray 9) := by rw [hw4]; exact (b34.block _ hMl).trans hM
    have hcb4 : Held w4 cb T := by rw [hw4]; exact hcb.call b34
    rw [← hw4] at b24 b34 ⊢
    rw [← hX]
    have hXl : w2.heap.size ≤ X := by rw [hX]; exact b23.size
    have hXM : X ≠ M := by omega
    have hXc : X ≠ cb := by have := hcb.lt; omega
    clear hw4 hX
    have x0 : w4.cell? ⟨X, 0, none⟩ = some (.int .i64 0) := by rw [World.cell?, hx4]; rfl
    have x1 : w4.cell? ⟨X, 1, none⟩ = some .nilFunc := by rw [World.cell?, hx4]; rfl
    have xf := fun i => frozen_of_row w4 X i _ _ hx4
    have xf0 := xf 0
    have xf1 := xf 1
    have hx5 := heap_setCell_same (w4.setCell ⟨X, 0, none⟩ (.int .i64 0)) X 1 _ _ (.nilFunc) (heap_setCell_same w4 X 0 _ _ (.int .i64 0) hx4)
    have b25 : Below w2.heap.size w2 ((w4.setCell ⟨X, 0, none⟩ (.int .i64 0)).setCell ⟨X, 1, none⟩ (.nilFunc)) := (b24.setCell hXl _).setCell hXl _
    have hM5 : ((w4.setCell ⟨X, 0, none⟩ (.int .i64 0)).setCell ⟨X, 1, none⟩ (.nilFunc)).heap[M]? = some (.map (wordsL cb).toArray 9) := (heap_setCell_other _ _ _ _ (Ne.symm hXM)).trans ((heap_setCell_other _ _ _ _ (Ne.symm hXM)).trans hM4)
    have hcb5 : Held ((w4.setCell ⟨X, 0, none⟩ (.int .i64 0)).setCell ⟨X, 1, none⟩ (.nilFunc)) cb T := (heap_setCell_other _ _ _ _ (Ne.symm hXc)).trans ((heap_setCell_other _ _ _ _ (Ne.symm hXc)).trans hcb4)
    refine wpAnyH_one (i := 10) (by kernel_rfl) rfl (fun K hK => ?_)
    go_simp
    refine hK _ _ ⟨S1 _ b25, hM5⟩ ?_
    clear hK K
    try simp only [Go.Act.put, List.setIfInBounds_toArray, List.set_cons_zero, List.set_cons_succ]
    obtain ⟨w5, hw5⟩ : ∃ w5, w5 = (w4.setCell ⟨X, 0, none⟩ (.int .i64 0)).setCell ⟨X, 1, none⟩ (.nilFunc) := ⟨_, rfl⟩
    rw [← hw5] at hx5 b25 hM5 hcb5 ⊢
    clear hw5 x0 x1 xf xf0 xf1
    refine wpAnyH_one (i := 11) (by kernel_rfl) rfl (fun K hK => ?_)
    go_simp
    refine hK _ _ ⟨S1 _ b25, hM5⟩ ?_
    clear hK K
    try simp only [Go.Act.put, List.setIfInBounds_toArray, List.set_cons_zero, List.set_cons_succ]
    refine wpAnyH_done (by kernel_rfl) ?_ _
    refine NoPanic.normal ?_
    have b05 : Below w.heap.size w w5 := b02.trans (b25.mono b02.size)
    have hr5 := (b25.block w.heap.size (by have := b2.size; omega)).trans ((b2.block w.heap.size (by omega)).trans hr1)
    go_wp2_with fail
    refine (mustNo 1 w5).mono ?_; rintro e w6 ⟨rfl, rfl⟩
    go_wp2
    exact lineDies _ T r (noO 1) w w5 _ (by decide) (by decide) ⟨by decide, by decide⟩ rfl hr5 (Step.of_below b05) (hV.call b05) (hD.call b05) hT
  · skip
    have bX : Below w2.heap.size w2 (w2.alloc (.cells #[.int .i64 0, .nilFunc] 69)).drew := ((Below.refl _ _).alloc (Nat.le_refl _) _).drew
    go_simp
    refine hK _ _ (S1 _ bX) ?_
    clear hK K
    try simp only [Go.Act.put, List.setIfInBounds_toArray, List.set_cons_zero, List.set_cons_succ]
    obtain ⟨X, hX⟩ : ∃ X, X = w2.heap.size := ⟨_, rfl⟩
    obtain ⟨w3, hw3⟩ : ∃ w3, w3 = (w2.alloc (.cells #[.int .i64 0, .nilFunc] 69)).drew := ⟨_, rfl⟩
    have hx3 : w3.heap[X]? = some (.cells #[.int .i64 0, .nilFunc] 69) := by rw [hw3, hX]; exact heap_alloc_new w2 _
    have z3 : w3.heap.size = X + 1 := by rw [hw3, hX]; show (w2.alloc _).heap.size = _; simp
    rw [← hw3] at bX ⊢
    try rw [← hX]
    have hXl : w2.heap.size ≤ X := by rw [hX]; exact Nat.le_refl _
    clear hw3 hX
    refine wpAnyH_one (i := 1) (by kernel_rfl) rfl (fun K hK => ?_)
    go_simp
    refine (deskWords T w3).mono ?_; rintro e w4 ⟨M, cb, rfl, hcb4, hM4, b34⟩
    have b24 : Below w2.heap.size w2 w4 := bX.trans (b34.mono bX.size)
    refine hK _ _ (S1 _ b24) ?_
    clear hK K
    try simp only [Go.Act.put, List.setIfInBounds_toArray, List.set_cons_zero, List.set_cons_succ]
    have hx4 := (b34.block X (by omega)).trans hx3
    have hXM : X ≠ M := by rintro rfl; have := hx4.symm.trans hM4; simp at this
    have hXc : X ≠ cb := by rintro rfl; have := hx4.symm.trans hcb4; simp at this
    refine wpAnyH_more (S' := fun W => W.cell? ⟨b0, o0, none⟩ = some (.string (bl c)) ∧ W.heap[M]? = some (.map (wordsL cb).toArray 9)) (fun _ h => h.1) _ _ _ _ ?_
    refine wpAnyH_take (i := 5) (v := ?_) rfl (by kernel_rfl) (by kernel_rfl) (by kernel_rfl) (fun _ _ _ h => h) (Or.inl ⟨by rfl, ?hy9⟩) ⟨S1 _ b24, hM4⟩ ?rest9
    case hy9 => (intro W hW; obtain ⟨q1, q2⟩ := hW; have hlk := wordsNo hwf (cb := cb) (M := M) (W := W) q2; go_simp; try with_reducible rfl)
    try simp only [Go.Act.put, List.setIfInBounds_toArray, List.set_cons_zero, List.set_cons_succ]
    refine wpAnyH_take (i := 6) (v := ?_) rfl (by kernel_rfl) (by kernel_rfl) (by kernel_rfl) (fun _ _ _ h => h) (Or.inl ⟨by rfl, ?hy10⟩) ⟨S1 _ b24, hM4⟩ ?rest10
    case hy10 => (intro W hW; obtain ⟨q1, q2⟩ := hW; go_simp; try with_reducible rfl)
    try simp only [Go.Act.put, List.setIfInBounds_toArray, List.set_cons_zero, List.set_cons_succ]
    refine wpAnyH_take (i := 7) (v := ?_) rfl (by kernel_rfl) (by kernel_rfl) (by kernel_rfl) (fun _ _ _ h => h) (Or.inl ⟨by rfl, ?hy11⟩) ⟨S1 _ b24, hM4⟩ ?rest11
    case hy11 => (intro W hW; obtain ⟨q1, q2⟩ := hW; go_simp; try with_reducible rfl)
    try simp only [Go.Act.put, List.setIfInBounds_toArray, List.set_cons_zero, List.set_cons_succ]
    refine wpAnyH_take (i := 8) (v := ?_) rfl (by kernel_rfl) (by kernel_rfl) (by kernel_rfl) (fun _ _ _ h => h) (Or.inl ⟨by rfl, ?hy12⟩) ⟨S1 _ b24, hM4⟩ ?rest12
    case hy12 => (intro W hW; obtain ⟨q1, q2⟩ := hW; go_simp; try with_reducible rfl)
    try simp only [Go.Act.put, List.setIfInBounds_toArray, List.set_cons_zero, List.set_cons_succ]
    have x0 : w4.cell? ⟨X, 0, none⟩ = some (.int .i64 0) := by rw [World.cell?, hx4]; rfl
    have x1 : w4.cell? ⟨X, 1, none⟩ = some .nilFunc := by rw [World.cell?, hx4]; rfl
    have xf := fun i => frozen_of_row w4 X i _ _ hx4
    have xf0 := xf 0
    have xf1 := xf 1
    have hx5 := heap_setCell_same (w4.setCell ⟨X, 0, none⟩ (.int .i64 0)) X 1 _ _ (.nilFunc) (heap_setCell_same w4 X 0 _ _ (.int .i64 0) hx4)
    have b25 : Below w2.heap.size w2 ((w4.setCell ⟨X, 0, none⟩ (.int .i64 0)).setCell ⟨X, 1, none⟩ (.nilFunc)) := (b24.setCell hXl _).setCell hXl _
    have hM5 : ((w4.setCell ⟨X, 0, none⟩ (.int .i64 0)).setCell ⟨X, 1, none⟩ (.nilFunc)).heap[M]? = some (.map (wordsL cb).toArray 9) := (heap_setCell_other _ _ _ _ (Ne.symm hXM)).trans ((heap_setCell_other _ _ _ _ (Ne.symm hXM)).trans hM4)
    have hcb5 : Held ((w4.setCell ⟨X, 0, none⟩ (.int .i64 0)).setCell ⟨X, 1, none⟩ (.nilFunc)) cb T := (heap_setCell_other _ _ _ _ (Ne.symm hXc)).trans ((heap_setCell_other _ _ _ _ (Ne.symm hXc)).trans hcb4)
    refine wpAnyH_one (i := 10) (by kernel_rfl) rfl (fun K hK => ?_)
    go_simp
    refine hK _ _ ⟨S1 _ b25, hM5⟩ ?_
    clear hK K
    try simp only [Go.Act.put, List.setIfInBounds_toArray, List.set_cons_zero, List.set_cons_succ]
    obtain ⟨w5, hw5⟩ : ∃ w5, w5 = (w4.setCell ⟨X, 0, none⟩ (.int .i64 0)).setCell ⟨X, 1, none⟩ (.nilFunc) := ⟨_, rfl⟩
    rw [← hw5] at hx5 b25 hM5 hcb5 ⊢
    clear hw5 x0 x1 xf xf0 xf1
    refine wpAnyH_one (i := 11) (by kernel_rfl) rfl (fun K hK => ?_)
    go_simp
    refine hK _ _ ⟨S1 _ b25, hM5⟩ ?_
    clear hK K
    try simp only [Go.Act.put, List.setIfInBounds_toArray, List.set_cons_zero, List.set_cons_succ]
    refine wpAnyH_done (by kernel_rfl) ?_ _
    refine NoPanic.normal ?_
    have b05 : Below w.heap.size w w5 := b02.trans (b25.mono b02.size)
    have hr5 := (b25.block w.heap.size (by have := b2.size; omega)).trans ((b2.block w.heap.size (by omega)).trans hr1)
    go_wp2_with fail
    refine (mustNo 1 w5).mono ?_; rintro e w6 ⟨rfl, rfl⟩
    go_wp2
    exact lineDies _ T r (noO 1) w w5 _ (by decide) (by decide) ⟨by decide, by decide⟩ rfl hr5 (Step.of_below b05) (hV.call b05) (hD.call b05) hT
set_option maxHeartbeats 4000000 in
theorem lineBad [Zone] (T : Nat) (r : Repo) (s c : Bytes) (ws : List Bytes) (n : Nat) (f : FuncId) (w : World) (hV : Vars w) (hD : DeskTab w T r) (hs : s.length ≤ 4096) (hws : spl s = c :: ws) (hwf : wordF c = some (n, f)) (hn : n ≤ 3) (hne : ws.length ≠ n) :
    Calls Tryz.prog 12 #[.pointer (some ⟨T, 0, none⟩), .string (bl s)] w (LinePost T w r (noO 1)) := by
  obtain ⟨w1, hw1⟩ : ∃ w1, w1 = w.alloc (.cells #[.string ⟨#[]⟩] 9) := ⟨_, rfl⟩
  have e1 : w1.heap.size = w.heap.size + 1 := by rw [hw1]; simp
  have b1 : Below w.heap.size w w1 := by rw [hw1]; exact (Below.refl _ _).alloc (Nat.le_refl _) _
  have hr1 : w1.heap[w.heap.size]? = some (.cells #[.string ⟨#[]⟩] 9) := by rw [hw1]; exact heap_alloc_new w _
  have HW1 := keepBack hw1
  clear hw1
  have hT := hD.lt
  go_enter_defers Tryz.func12, Tryz.ntmps12
  go_wp2_with fail
  rw [← HW1.out]
  refine (deskSplit s hs w1 (hV.call b1)).mono ?_; rintro e w2 ⟨v, rfl, hv, b2⟩
  rw [hws] at hv
  have hv' : Sl tStr w2 (fun k => k ≠ T) v ((c :: ws).map bl) := hv.sl (fun _ h => h.elim) (fun k hk => by omega)
  obtain ⟨ao, cap, hvs, hcap, hmax, _⟩ := hv'.shape
  obtain ⟨Ln, hLn⟩ : ∃ Ln, Ln = ((c :: ws).map bl).length := ⟨_, rfl⟩
  rw [← hLn] at hvs hcap
  unfold maxLen at hmax
  subst hvs
  have hq : ((Ln : Int) == (n : Int) + 1) = false := by rw [beq_eq_false_iff_ne]; simp at hLn; omega
  clear hLn
  obtain ⟨b0, o0, ix0, n0, l0, c0⟩ := hv'.idxStr aStr 0 0 (bl c) rfl rfl
  have b02 : Below w.heap.size w w2 := b1.trans (b2.mono (by omega))
  have S1 : ∀ W, Below w2.heap.size w2 W → W.cell? ⟨b0, o0, none⟩ = some (.string (bl c)) := fun W hW => (hW.cell (p := ⟨b0, o0, none⟩) l0).trans c0
  go_wp2_with fail
  refine wp_region_noPanic ?_
  refine wp_region_held (S := fun W => W.cell? ⟨b0, o0, none⟩ = some (.string (bl c))) (by kernel_rfl) ?_
  change wpAnyH _ _ _ _ _ _ _ _ (World.drew _)
  have b9 := (Below.refl w2.heap.size w2).drew
  refine wpAnyH_take (i := 0) (v := ?_) rfl (by kernel_rfl) (by kernel_rfl) (by kernel_rfl) (fun _ _ _ h => h) (Or.inl ⟨by rfl, ?hy13⟩) (S1 _ b9) ?rest13
  case hy13 => (intro W hW; obtain q1 := hW; go_simp; try with_reducible rfl)
  try simp only [Go.Act.put, List.setIfInBounds_toArray, List.set_cons_zero, List.set_cons_succ]
  refine wpAnyH_take (i := 2) (v := ?_) rfl (by kernel_rfl) (by kernel_rfl) (by kernel_rfl) (fun _ _ _ h => h) (Or.inl ⟨by rfl, ?hy14⟩) (S1 _ b9) ?rest14
  case hy14 => (intro W hW; obtain q1 := hW; go_simp; try with_reducible rfl)
  try simp only [Go.Act.put, List.setIfInBounds_toArray, List.set_cons_zero, List.set_cons_succ]
  refine wpAnyH_take (i := 3) (v := ?_) rfl (by kernel_rfl) (by kernel_rfl) (by kernel_rfl) (fun _ _ _ h => h) (Or.inl ⟨by rfl, ?hy15⟩) (S1 _ b9) ?rest15
  case hy15 => (intro W hW; obtain q1 := hW; go_simp; try with_reducible rfl)
  try simp only [Go.Act.put, List.setIfInBounds_toArray, List.set_cons_zero, List.set_cons_succ]
  refine wpAnyH_take (i := 4) (v := ?_) rfl (by kernel_rfl) (by kernel_rfl) (by kernel_rfl) (fun _ _ _ h => h) (Or.inl ⟨by rfl, ?hy16⟩) (S1 _ b9) ?rest16
  case hy16 => (intro W hW; obtain q1 := hW; go_simp; try with_reducible rfl)
  try simp only [Go.Act.put, List.setIfInBounds_toArray, List.set_cons_zero, List.set_cons_succ]
  refine wpAnyH_two (i := 1) (k := 9) (by kernel_rfl) rfl rfl (fun K hK => ?_) (fun K hK => ?_)
  · skip
    go_simp
    refine (deskWords T w2.drew).mono ?_; rintro e w3 ⟨M, cb, rfl, hcb, hM, b3⟩
    have b23 : Below w2.heap.size w2 w3 := b9.trans (b3.mono b9.size)
    refine hK _ _ (S1 _ b23) ?_
    clear hK K
    try simp only [Go.Act.put, List.setIfInBounds_toArray, List.set_cons_zero, List.set_cons_succ]
    refine wpAnyH_more (S' := fun W => W.cell? ⟨b0, o0, none⟩ = some (.string (bl c)) ∧ W.heap[M]? = some (.map (wordsL cb).toArray 9)) (fun _ h => h.1) _ _ _ _ ?_
    refine wpAnyH_take (i := 5) (v := ?_) rfl (by kernel_rfl) (by kernel_rfl) (by kernel_rfl) (fun _ _ _ h => h) (Or.inl ⟨by rfl, ?hy17⟩) ⟨S1 _ b23, hM⟩ ?rest17
    case hy17 => (intro W hW; obtain ⟨q1, q2⟩ := hW; have hlk := wordsYes hwf (cb := cb) (M := M) (W := W) q2; go_simp; try with_reducible rfl)
    try simp only [Go.Act.put, List.setIfInBounds_toArray, List.set_cons_zero, List.set_cons_succ]
    refine wpAnyH_take (i := 6) (v := ?_) rfl (by kernel_rfl) (by kernel_rfl) (by kernel_rfl) (fun _ _ _ h => h) (Or.inl ⟨by rfl, ?hy18⟩) ⟨S1 _ b23, hM⟩ ?rest18
    case hy18 => (intro W hW; obtain ⟨q1, q2⟩ := hW; go_simp; try with_reducible rfl)
    try simp only [Go.Act.put, List.setIfInBounds_toArray, List.set_cons_zero, List.set_cons_succ]
    refine wpAnyH_take (i := 7) (v := ?_) rfl (by kernel_rfl) (by kernel_rfl) (by kernel_rfl) (fun _ _ _ h => h) (Or.inl ⟨by rfl, ?hy19⟩) ⟨S1 _ b23, hM⟩ ?rest19
    case hy19 => (intro W hW; obtain ⟨q1, q2⟩ := hW; go_simp; try with_reducible rfl)
    try simp only [Go.Act.put, List.setIfInBounds_toArray, List.set_cons_zero, List.set_cons_succ]
    refine wpAnyH_take (i := 8) (v := ?_) rfl (by kernel_rfl) (by kernel_rfl) (by kernel_rfl) (fun _ _ _ h => h) (Or.inl ⟨by rfl, ?hy20⟩) ⟨S1 _ b23, hM⟩ ?rest20
    case hy20 => (intro W hW; obtain ⟨q1, q2⟩ := hW; go_simp; try with_reducible rfl)
    try simp only [Go.Act.put, List.setIfInBounds_toArray, List.set_cons_zero, List.set_cons_succ]
    have b34 : Below w3.heap.size w3 (w3.alloc (.cells #[.int .i64 0, .nilFunc] 69)) := (Below.refl _ _).alloc (Nat.le_refl _) _
    have hMl := (Array.getElem?_eq_some_iff.1 hM).1
    have b24 := b23.trans (b34.mono b23.size)
    refine wpAnyH_one (i := 9) (by kernel_rfl) rfl (fun K hK => ?_)
    go_simp
    refine hK _ _ ⟨S1 _ b24, (b34.block _ hMl).trans hM⟩ ?_
    clear hK K
    try simp only [Go.Act.put, List.setIfInBounds_toArray, List.set_cons_zero, List.set_cons_succ]
    obtain ⟨X, hX⟩ : ∃ X, X = w3.heap.size := ⟨_, rfl⟩
    obtain ⟨w4, hw4⟩ : ∃ w4, w4 = w3.alloc (.cells #[.int .i64 0, .nilFunc] 69) := ⟨_, rfl⟩
    have hx4 : w4.heap[X]? = some (.cells #[.int .i64 0, .nilFunc] 69) := by rw [hw4, hX]; exact heap_alloc_new w3 _
    have hM4 : w4.heap[M]? = some (.map (wordsL cb).toArray 9) := by rw [hw4]; exact (b34.block _ hMl).trans hM
    have hcb4 : Held w4 cb T := by rw [hw4]; exact hcb.call b34
    rw [← hw4] at b24 b34 ⊢
    rw [← hX]
    have hXl : w2.heap.size ≤ X := by rw [hX]; exact b23.size
    have hXM : X ≠ M := by omega
    have hXc : X ≠ cb := by have := hcb.lt; omega
    clear hw4 hX
    have x0 : w4.cell? ⟨X, 0, none⟩ = some (.int .i64 0) := by rw [World.cell?, hx4]; rfl
    have x1 : w4.cell? ⟨X, 1, none⟩ = some .nilFunc := by rw [World.cell?, hx4]; rfl
    have xf := fun i => frozen_of_row w4 X i _ _ hx4
    have xf0 := xf 0
    have xf1 := xf 1
    have hx5 := heap_setCell_same (w4.setCell ⟨X, 0, none⟩ (.int .i64 n)) X 1 _ _ (.func (.func f) #[] #[.pointer (some ⟨cb, 0, none⟩)]) (heap_setCell_same w4 X 0 _ _ (.int .i64 n) hx4)
    have b25 : Below w2.heap.size w2 ((w4.setCell ⟨X, 0, none⟩ (.int .i64 n)).setCell ⟨X, 1, none⟩ (.func (.func f) #[] #[.pointer (some ⟨cb, 0, none⟩)])) := (b24.setCell hXl _).setCell hXl _
    have hM5 : ((w4.setCell ⟨X, 0, none⟩ (.int .i64 n)).setCell ⟨X, 1, none⟩ (.func (.func f) #[] #[.pointer (some ⟨cb, 0, none⟩)])).heap[M]? = some (.map (wordsL cb).toArray 9) := (heap_setCell_other _ _ _ _ (Ne.symm hXM)).trans ((heap_setCell_other _ _ _ _ (Ne.symm hXM)).trans hM4)
    have hcb5 : Held ((w4.setCell ⟨X, 0, none⟩ (.int .i64 n)).setCell ⟨X, 1, none⟩ (.func (.func f) #[] #[.pointer (some ⟨cb, 0, none⟩)])) cb T := (heap_setCell_other _ _ _ _ (Ne.symm hXc)).trans ((heap_setCell_other _ _ _ _ (Ne.symm hXc)).trans hcb4)
    refine wpAnyH_one (i := 10) (by kernel_rfl) rfl (fun K hK => ?_)
    go_simp
    refine hK _ _ ⟨S1 _ b25, hM5⟩ ?_
    clear hK K
    try simp only [Go.Act.put, List.setIfInBounds_toArray, List.set_cons_zero, List.set_cons_succ]
    obtain ⟨w5, hw5⟩ : ∃ w5, w5 = (w4.setCell ⟨X, 0, none⟩ (.int .i64 n)).setCell ⟨X, 1, none⟩ (.func (.func f) #[] #[.pointer (some ⟨cb, 0, none⟩)]) := ⟨_, rfl⟩
    rw [← hw5] at hx5 b25 hM5 hcb5 ⊢
    clear hw5 x0 x1 xf xf0 xf1
    refine wpAnyH_one (i := 11) (by kernel_rfl) rfl (fun K hK => ?_)
    go_simp
    refine hK _ _ ⟨S1 _ b25, hM5⟩ ?_
    clear hK K
    try simp only [Go.Act.put, List.setIfInBounds_toArray, List.set_cons_zero, List.set_cons_succ]
    refine wpAnyH_done (by kernel_rfl) ?_ _
    refine NoPanic.normal ?_
    have b05 : Below w.heap.size w w5 := b02.trans (b25.mono b02.size)
    have hr5 := (b25.block w.heap.size (by have := b2.size; omega)).trans ((b2.block w.heap.size (by omega)).trans hr1)
    have y0 : w5.cell? ⟨X, 0, none⟩ = some (.int .i64 n) := by rw [World.cell?, hx5]; rfl
    go_wp2_with fail
    refine (mustNo 1 w5).mono ?_; rintro e w6 ⟨rfl, rfl⟩
    go_wp2
    exact lineDies _ T r (noO 1) w w5 _ (by decide) (by decide) ⟨by decide, by decide⟩ rfl hr5 (Step.of_below b05) (hV.call b05) (hD.call b05) hT
  · skip
    have bX : Below w2.heap.size w2 (w2.alloc (.cells #[.int .i64 0, .nilFunc] 69)).drew := ((Below.refl _ _).alloc (Nat.le_refl _) _).drew
    go_simp
    refine hK _ _ (S1 _ bX) ?_
    clear hK K
    try simp only [Go.Act.put, List.setIfInBounds_toArray, List.set_cons_zero, List.set_cons_succ]
    obtain ⟨X, hX⟩ : ∃ X, X = w2.heap.size := ⟨_, rfl⟩
    obtain ⟨w3, hw3⟩ : ∃ w3, w3 = (w2.alloc (.cells #[.int .i64 0, .nilFunc] 69)).drew := ⟨_, rfl⟩
    have hx3 : w3.heap[X]? = some (.cells #[.int .i64 0, .nilFunc] 69) := by rw [hw3, hX]; exact heap_alloc_new w2 _
    have z3 : w3.heap.size = X + 1 := by rw [hw3, hX]; show (w2.alloc _).heap.size = _; simp
    rw [← hw3] at bX ⊢
    try rw [← hX]
    have hXl : w2.heap.size ≤ X := by rw [hX]; exact Nat.le_refl _
    clear hw3 hX
    refine wpAnyH_one (i := 1) (by kernel_rfl) rfl (fun K hK => ?_)
    go_simp
    refine (deskWords T w3).mono ?_; rintro e w4 ⟨M, cb, rfl, hcb4, hM4, b34⟩
    have b24 : Below w2.heap.size w2 w4 := bX.trans (b34.mono bX.size)
    refine hK _ _ (S1 _ b24) ?_
    clear hK K
    try simp only [Go.Act.put, List.setIfInBounds_toArray, List.set_cons_zero, List.set_cons_succ]
    have hx4 := (b34.block X (by omega)).trans hx3
    have hXM : X ≠ M := by rintro rfl; have := hx4.symm.trans hM4; simp at this
    have hXc : X ≠ cb := by rintro rfl; have := hx4.symm.trans hcb4; simp at this
    refine wpAnyH_more (S' := fun W => W.cell? ⟨b0, o0, none⟩ = some (.string (bl c)) ∧ W.heap[M]? = some (.map (wordsL cb).toArray 9)) (fun _ h => h.1) _ _ _ _ ?_
    refine wpAnyH_take (i := 5) (v := ?_) rfl (by kernel_rfl) (by kernel_rfl) (by kernel_rfl) (fun _ _ _ h => h) (Or.inl ⟨by rfl, ?hy21⟩) ⟨S1 _ b24, hM4⟩ ?rest21
    case hy21 => (intro W hW; obtain ⟨q1, q2⟩ := hW; have hlk := wordsYes hwf (cb := cb) (M := M) (W := W) q2; go_simp; try with_reducible rfl)
    try simp only [Go.Act.put, List.setIfInBounds_toArray, List.set_cons_zero, List.set_cons_succ]
    refine wpAnyH_take (i := 6) (v := ?_) rfl (by kernel_rfl) (by kernel_rfl) (by kernel_rfl) (fun _ _ _ h => h) (Or.inl ⟨by rfl, ?hy22⟩) ⟨S1 _ b24, hM4⟩ ?rest22
    case hy22 => (intro W hW; obtain ⟨q1, q2⟩ := hW; go_simp; try with_reducible rfl)
    try simp only [Go.Act.put, List.setIfInBounds_toArray, List.set_cons_zero, List.set_cons_succ]
    refine wpAnyH_take (i := 7) (v := ?_) rfl (by kernel_rfl) (by kernel_rfl) (by kernel_rfl) (fun _ _ _ h => h) (Or.inl ⟨by rfl, ?hy23⟩) ⟨S1 _ b24, hM4⟩ ?rest23
    case hy23 => (intro W hW; obtain ⟨q1, q2⟩ := hW; go_simp; try with_reducible rfl)
    try simp only [Go.Act.put, List.setIfInBounds_toArray, List.set_cons_zero, List.set_cons_succ]
    refine wpAnyH_take (i := 8) (v := ?_) rfl (by kernel_rfl) (by kernel_rfl) (by kernel_rfl) (fun _ _ _ h => h) (Or.inl ⟨by rfl, ?hy24⟩) ⟨S1 _ b24, hM4⟩ ?rest24
    case hy24 => (intro W hW; obtain ⟨q1, q2⟩ := hW; go_simp; try with_reducible rfl)
    try simp only [Go.Act.put, List.setIfInBounds_toArray, List.set_cons_zero, List.set_cons_succ]
    have x0 : w4.cell? ⟨X, 0, none⟩ = some (.int .i64 0) := by rw [World.cell?, hx4]; rfl
    have x1 : w4.cell? ⟨X, 1, none⟩ = some .nilFunc := by rw [World.cell?, hx4]; rfl
    have xf := fun i => frozen_of_row w4 X i _ _ hx4
    have xf0 := xf 0
    have xf1 := xf 1
    have hx5 := heap_setCell_same (w4.setCell ⟨X, 0, none⟩ (.int .i64 n)) X 1 _ _ (.func (.func f) #[] #[.pointer (some ⟨cb, 0, none⟩)]) (heap_setCell_same w4 X 0 _ _ (.int .i64 n) hx4)
    have b25 : Below w2.heap.size w2 ((w4.setCell ⟨X, 0, none⟩ (.int .i64 n)).setCell ⟨X, 1, none⟩ (.func (.func f) #[] #[.pointer (some ⟨cb, 0, none⟩)])) := (b24.setCell hXl _).setCell hXl _
    have hM5 : ((w4.setCell ⟨X, 0, none⟩ (.int .i64 n)).setCell ⟨X, 1, none⟩ (.func (.func f) #[] #[.pointer (some ⟨cb, 0, none⟩)])).heap[M]? = some (.map (wordsL cb).toArray 9) := (heap_setCell_other _ _ _ _ (Ne.symm hXM)).trans ((heap_setCell_other _ _ _ _ (Ne.symm hXM)).trans hM4)
    have hcb5 : Held ((w4.setCell ⟨X, 0, none⟩ (.int .i64 n)).setCell ⟨X, 1, none⟩ (.func (.func f) #[] #[.pointer (some ⟨cb, 0, none⟩)])) cb T := (heap_setCell_other _ _ _ _ (Ne.symm hXc)).trans ((heap_setCell_other _ _ _ _ (Ne.symm hXc)).trans hcb4)
    refine wpAnyH_one (i := 10) (by kernel_rfl) rfl (fun K hK => ?_)
    go_simp
    refine hK _ _ ⟨S1 _ b25, hM5⟩ ?_
    clear hK K
    try simp only [Go.Act.put, List.setIfInBounds_toArray, List.set_cons_zero, List.set_cons_succ]
    obtain ⟨w5, hw5⟩ : ∃ w5, w5 = (w4.setCell ⟨X, 0, none⟩ (.int .i64 n)).setCell ⟨X, 1, none⟩ (.func (.func f) #[] #[.pointer (some ⟨cb, 0, none⟩)]) := ⟨_, rfl⟩
    rw [← hw5] at hx5 b25 hM5 hcb5 ⊢
    clear hw5 x0 x1 xf xf0 xf1
    refine wpAnyH_one (i := 11) (by kernel_rfl) rfl (fun K hK => ?_)
    go_simp
    refine hK _ _ ⟨S1 _ b25, hM5⟩ ?_
    clear hK K
    try simp only [Go.Act.put, List.setIfInBounds_toArray, List.set_cons_zero, List.set_cons_succ]
    refine wpAnyH_done (by kernel_rfl) ?_ _
    refine NoPanic.normal ?_
    have b05 : Below w.heap.size w w5 := b02.trans (b25.mono b02.size)
    have hr5 := (b25.block w.heap.size (by have := b2.size; omega)).trans ((b2.block w.heap.size (by omega)).trans hr1)
    have y0 : w5.cell? ⟨X, 0, none⟩ = some (.int .i64 n) := by rw [World.cell?, hx5]; rfl
    go_wp2_with fail
    refine (mustNo 1 w5).mono ?_; rintro e w6 ⟨rfl, rfl⟩
    go_wp2
    exact lineDies _ T r (noO 1) w w5 _ (by decide) (by decide) ⟨by decide, by decide⟩ rfl hr5 (Step.of_below b05) (hV.call b05) (hD.call b05) hT
set_option maxHeartbeats 4000000 in
theorem lineGood [Zone] (T : Nat) (r : Repo) (o : Out) (s c : Bytes) (ws : List Bytes) (n : Nat) (f : FuncId) (w : World) (hV : Vars w) (hD : DeskTab w T r) (hs : s.length ≤ 4096) (hws : spl s = c :: ws) (hwf : wordF c = some (n, f)) (hn : n ≤ 3) (hne : ws.length = n)
    (ho : 0 ≤ o.2.2 ∧ i64ok o.2.2) (h8 : 8 ≤ T) (hF : ∀ (args : Array Value) (W : World), Sem.run Tryz.prog (callFunc f args) W = .ok (.enter f args) W) (hC : ∀ (W : World) (cb : Nat) (v : Value), Vars W → DeskTab W T r → Held W cb T → Sl tStr W (fun k => k ≠ T) v (ws.map bl) → Calls Tryz.prog f #[v, .pointer (some ⟨cb, 0, none⟩)] W (Does T W r o)) :
    Calls Tryz.prog 12 #[.pointer (some ⟨T, 0, none⟩), .string (bl s)] w (LinePost T w r o) := by
  obtain ⟨w1, hw1⟩ : ∃ w1, w1 = w.alloc (.cells #[.string ⟨#[]⟩] 9) := ⟨_, rfl⟩
  have e1 : w1.heap.size = w.heap.size + 1 := by rw [hw1]; simp
  have b1 : Below w.heap.size w w1 := by rw [hw1]; exact (Below.refl _ _).alloc (Nat.le_refl _) _
  have hr1 : w1.heap[w.heap.size]? = some (.cells #[.string ⟨#[]⟩] 9) := by rw [hw1]; exact heap_alloc_new w _
  have HW1 := keepBack hw1
  clear hw1
  have hT := hD.lt
  go_enter_defers Tryz.func12, Tryz.ntmps12
  go_wp2_with fail
  rw [← HW1.out]
  refine (deskSplit s hs w1 (hV.call b1)).mono ?_; rintro e w2 ⟨v, rfl, hv, b2⟩
  rw [hws] at hv
  have hv' : Sl tStr w2 (fun k => k ≠ T) v ((c :: ws).map bl) := hv.sl (fun _ h => h.elim) (fun k hk => by omega)
  obtain ⟨ao, cap, hvs, hcap, hmax, _⟩ := hv'.shape
  obtain ⟨Ln, hLn⟩ : ∃ Ln, Ln = ((c :: ws).map bl).length := ⟨_, rfl⟩
  rw [← hLn] at hvs hcap
  unfold maxLen at hmax
  subst hvs
  have hq : ((Ln : Int) == (n : Int) + 1) = true := by rw [beq_iff_eq]; simp at hLn; omega
  obtain ⟨at', ct', tl1, tl2, hvt⟩ := hv'.tail aStr
  rw [List.length_map, hne] at tl1 tl2 hvt
  clear hLn
  obtain ⟨b0, o0, ix0, n0, l0, c0⟩ := hv'.idxStr aStr 0 0 (bl c) rfl rfl
  have b02 : Below w.heap.size w w2 := b1.trans (b2.mono (by omega))
  have S1 : ∀ W, Below w2.heap.size w2 W → W.cell? ⟨b0, o0, none⟩ = some (.string (bl c)) := fun W hW => (hW.cell (p := ⟨b0, o0, none⟩) l0).trans c0
  go_wp2_with fail
  refine wp_region_noPanic ?_
  refine wp_region_held (S := fun W => W.cell? ⟨b0, o0, none⟩ = some (.string (bl c))) (by kernel_rfl) ?_
  change wpAnyH _ _ _ _ _ _ _ _ (World.drew _)
  have b9 := (Below.refl w2.heap.size w2).drew
  refine wpAnyH_take (i := 0) (v := ?_) rfl (by kernel_rfl) (by kernel_rfl) (by kernel_rfl) (fun _ _ _ h => h) (Or.inl ⟨by rfl, ?hy25⟩) (S1 _ b9) ?rest25
  case hy25 => (intro W hW; obtain q1 := hW; go_simp; try with_reducible rfl)
  try simp only [Go.Act.put, List.setIfInBounds_toArray, List.set_cons_zero, List.set_cons_succ]
  refine wpAnyH_take (i := 2) (v := ?_) rfl (by kernel_rfl) (by kernel_rfl) (by kernel_rfl) (fun _ _ _ h => h) (Or.inl ⟨by rfl, ?hy26⟩) (S1 _ b9) ?rest26
  case hy26 => (intro W hW; obtain q1 := hW; go_simp; try with_reducible rfl)
  try simp only [Go.Act.put, List.setIfInBounds_toArray, List.set_cons_zero, List.set_cons_succ]
  refine wpAnyH_take (i := 3) (v := ?_) rfl (by kernel_rfl) (by kernel_rfl) (by kernel_rfl) (fun _ _ _ h => h) (Or.inl ⟨by rfl, ?hy27⟩) (S1 _ b9) ?rest27
  case hy27 => (intro W hW; obtain q1 := hW; go_simp; try with_reducible rfl)
  try simp only [Go.Act.put, List.setIfInBounds_toArray, List.set_cons_zero, List.set_cons_succ]
  refine wpAnyH_take (i := 4) (v := ?_) rfl (by kernel_rfl) (by kernel_rfl) (by kernel_rfl) (fun _ _ _ h => h) (Or.inl ⟨by rfl, ?hy28⟩) (S1 _ b9) ?rest28
  case hy28 => (intro W hW; obtain q1 := hW; go_simp; try with_reducible rfl)
  try simp only [Go.Act.put, List.setIfInBounds_toArray, List.set_cons_zero, List.set_cons_succ]
  refine wpAnyH_two (i := 1) (k := 9) (by kernel_rfl) rfl rfl (fun K hK => ?_) (fun K hK => ?_)
  · skip
    go_simp
    refine (deskWords T w2.drew).mono ?_; rintro e w3 ⟨M, cb, rfl, hcb, hM, b3⟩
    have b23 : Below w2.heap.size w2 w3 := b9.trans (b3.mono b9.size)
    refine hK _ _ (S1 _ b23) ?_
    clear hK K
    try simp only [Go.Act.put, List.setIfInBounds_toArray, List.set_cons_zero, List.set_cons_succ]
    refine wpAnyH_more (S' := fun W => W.cell? ⟨b0, o0, none⟩ = some (.string (bl c)) ∧ W.heap[M]? = some (.map (wordsL cb).toArray 9)) (fun _ h => h.1) _ _ _ _ ?_
    refine wpAnyH_take (i := 5) (v := ?_) rfl (by kernel_rfl) (by kernel_rfl) (by kernel_rfl) (fun _ _ _ h => h) (Or.inl ⟨by rfl, ?hy29⟩) ⟨S1 _ b23, hM⟩ ?rest29
    case hy29 => (intro W hW; obtain ⟨q1, q2⟩ := hW; have hlk := wordsYes hwf (cb := cb) (M := M) (W := W) q2; go_simp; try with_reducible rfl)
    try simp only [Go.Act.put, List.setIfInBounds_toArray, List.set_cons_zero, List.set_cons_succ]
    refine wpAnyH_take (i := 6) (v := ?_) rfl (by kernel_rfl) (by kernel_rfl) (by kernel_rfl) (fun _ _ _ h => h) (Or.inl ⟨by rfl, ?hy30⟩) ⟨S1 _ b23, hM⟩ ?rest30
    case hy30 => (intro W hW; obtain ⟨q1, q2⟩ := hW; go_simp; try with_reducible rfl)
    try simp only [Go.Act.put, List.setIfInBounds_toArray, List.set_cons_zero, List.set_cons_succ]
    refine wpAnyH_take (i := 7) (v := ?_) rfl (by kernel_rfl) (by kernel_rfl) (by kernel_rfl) (fun _ _ _ h => h) (Or.inl ⟨by rfl, ?hy31⟩) ⟨S1 _ b23, hM⟩ ?rest31
    case hy31 => (intro W hW; obtain ⟨q1, q2⟩ := hW; go_simp; try with_reducible rfl)
    try simp only [Go.Act.put, List.setIfInBounds_toArray, List.set_cons_zero, List.set_cons_succ]
    refine wpAnyH_take (i := 8) (v := ?_) rfl (by kernel_rfl) (by kernel_rfl) (by kernel_rfl) (fun _ _ _ h => h) (Or.inl ⟨by rfl, ?hy32⟩) ⟨S1 _ b23, hM⟩ ?rest32
    case hy32 => (intro W hW; obtain ⟨q1, q2⟩ := hW; go_simp; try with_reducible rfl)
    try simp only [Go.Act.put, List.setIfInBounds_toArray, List.set_cons_zero, List.set_cons_succ]
    have b34 : Below w3.heap.size w3 (w3.alloc (.cells #[.int .i64 0, .nilFunc] 69)) := (Below.refl _ _).alloc (Nat.le_refl _) _
    have hMl := (Array.getElem?_eq_some_iff.1 hM).1
    have b24 := b23.trans (b34.mono b23.size)
    refine wpAnyH_one (i := 9) (by kernel_rfl) rfl (fun K hK => ?_)
    go_simp
    refine hK _ _ ⟨S1 _ b24, (b34.block _ hMl).trans hM⟩ ?_
    clear hK K
    try simp only [Go.Act.put, List.setIfInBounds_toArray, List.set_cons_zero, List.set_cons_succ]
    obtain ⟨X, hX⟩ : ∃ X, X = w3.heap.size := ⟨_, rfl⟩
    obtain ⟨w4, hw4⟩ : ∃ w4, w4 = w3.alloc (.cells #[.int .i64 0, .nilFunc] 69) := ⟨_, rfl⟩
    have hx4 : w4.heap[X]? = some (.cells #[.int .i64 0, .nilFunc] 69) := by rw [hw4, hX]; exact heap_alloc_new w3 _
    have hM4 : w4.heap[M]? = some (.map (wordsL cb).toArray 9) := by rw [hw4]; exact (b34.block _ hMl).trans hM
    have hcb4 : Held w4 cb T := by rw [hw4]; exact hcb.call b34
    rw [← hw4] at b24 b34 ⊢
    rw [← hX]
    have hXl : w2.heap.size ≤ X := by rw [hX]; exact b23.size
    have hXM : X ≠ M := by omega
    have hXc : X ≠ cb := by have := hcb.lt; omega
    clear hw4 hX
    have x0 : w4.cell? ⟨X, 0, none⟩ = some (.int .i64 0) := by rw [World.cell?, hx4]; rfl
    have x1 : w4.cell? ⟨X, 1, none⟩ = some .nilFunc := by rw [World.cell?, hx4]; rfl
    have xf := fun i => frozen_of_row w4 X i _ _ hx4
    have xf0 := xf 0
    have xf1 := xf 1
    have hx5 := heap_setCell_same (w4.setCell ⟨X, 0, none⟩ (.int .i64 n)) X 1 _ _ (.func (.func f) #[] #[.pointer (some ⟨cb, 0, none⟩)]) (heap_setCell_same w4 X 0 _ _ (.int .i64 n) hx4)
    have b25 : Below w2.heap.size w2 ((w4.setCell ⟨X, 0, none⟩ (.int .i64 n)).setCell ⟨X, 1, none⟩ (.func (.func f) #[] #[.pointer (some ⟨cb, 0, none⟩)])) := (b24.setCell hXl _).setCell hXl _
    have hM5 : ((w4.setCell ⟨X, 0, none⟩ (.int .i64 n)).setCell ⟨X, 1, none⟩ (.func (.func f) #[] #[.pointer (some ⟨cb, 0, none⟩)])).heap[M]? = some (.map (wordsL cb).toArray 9) := (heap_setCell_other _ _ _ _ (Ne.symm hXM)).trans ((heap_setCell_other _ _ _ _ (Ne.symm hXM)).trans hM4)
    have hcb5 : Held ((w4.setCell ⟨X, 0, none⟩ (.int .i64 n)).setCell ⟨X, 1, none⟩ (.func (.func f) #[] #[.pointer (some ⟨cb, 0, none⟩)])) cb T := (heap_setCell_other _ _ _ _ (Ne.symm hXc)).trans ((heap_setCell_other _ _ _ _ (Ne.symm hXc)).trans hcb4)
    refine wpAnyH_one (i := 10) (by kernel_rfl) rfl (fun K hK => ?_)
    go_simp
    refine hK _ _ ⟨S1 _ b25, hM5⟩ ?_
    clear hK K
    try simp only [Go.Act.put, List.setIfInBounds_toArray, List.set_cons_zero, List.set_cons_succ]
    obtain ⟨w5, hw5⟩ : ∃ w5, w5 = (w4.setCell ⟨X, 0, none⟩ (.int .i64 n)).setCell ⟨X, 1, none⟩ (.func (.func f) #[] #[.pointer (some ⟨cb, 0, none⟩)]) := ⟨_, rfl⟩
    rw [← hw5] at hx5 b25 hM5 hcb5 ⊢
    clear hw5 x0 x1 xf xf0 xf1
    refine wpAnyH_one (i := 11) (by kernel_rfl) rfl (fun K hK => ?_)
    go_simp
    refine hK _ _ ⟨S1 _ b25, hM5⟩ ?_
    clear hK K
    try simp only [Go.Act.put, List.setIfInBounds_toArray, List.set_cons_zero, List.set_cons_succ]
    refine wpAnyH_done (by kernel_rfl) ?_ _
    refine NoPanic.normal ?_
    have b05 : Below w.heap.size w w5 := b02.trans (b25.mono b02.size)
    have hr5 := (b25.block w.heap.size (by have := b2.size; omega)).trans ((b2.block w.heap.size (by omega)).trans hr1)
    have y0 : w5.cell? ⟨X, 0, none⟩ = some (.int .i64 n) := by rw [World.cell?, hx5]; rfl
    have y1 : w5.cell? ⟨X, 1, none⟩ = some (.func (.func f) #[] #[.pointer (some ⟨cb, 0, none⟩)]) := by rw [World.cell?, hx5]; rfl
    go_wp2_with fail
    refine (mustOk 1 w5).mono ?_; rintro e w6 ⟨rfl, rfl⟩
    go_wp2_with fail
    refine Code.wp_mono (lateImp T r o w _ hT ho) ?_
    refine wp_region_held (S := fun W => W.cell? ⟨X, 1, none⟩ = some (.func (.func f) #[] #[.pointer (some ⟨cb, 0, none⟩)])) (by kernel_rfl) ?_
    change wpAnyH _ _ _ _ _ _ _ _ (World.drew _)
    have b59 := (Below.refl w5.heap.size w5).drew
    have b09 := b05.trans (b59.mono b05.size)
    have hXlt := (Array.getElem?_eq_some_iff.1 hx5).1
    have hXT : X ≠ T := by have := b2.size; omega
    have S7 : ∀ W, Step (fun k => k = T) w5 W → W.cell? ⟨X, 1, none⟩ = some (.func (.func f) #[] #[.pointer (some ⟨cb, 0, none⟩)]) := fun W hW => (hW.cell (p := ⟨X, 1, none⟩) hXlt hXT).trans y1
    refine wpAnyH_take (i := 0) (v := ?_) rfl (by kernel_rfl) (by kernel_rfl) (by kernel_rfl) (fun _ _ _ h => Late.put (by decide) h) (Or.inl ⟨by rfl, ?hy33⟩) (S7 _ (Step.of_below b59)) ?rest33
    case hy33 => (intro W hW; obtain q1 := hW; go_simp; try with_reducible rfl)
    try simp only [Go.Act.put, List.setIfInBounds_toArray, List.set_cons_zero, List.set_cons_succ]
    refine wpAnyH_take (i := 1) (v := ?_) rfl (by kernel_rfl) (by kernel_rfl) (by kernel_rfl) (fun _ _ _ h => Late.put (by decide) h) (Or.inl ⟨by rfl, ?hy34⟩) (S7 _ (Step.of_below b59)) ?rest34
    case hy34 => (intro W hW; obtain q1 := hW; go_simp; try with_reducible rfl)
    try simp only [Go.Act.put, List.setIfInBounds_toArray, List.set_cons_zero, List.set_cons_succ]
    refine wpAnyH_take (i := 2) (v := ?_) rfl (by kernel_rfl) (by kernel_rfl) (by kernel_rfl) (fun _ _ _ h => Late.put (by decide) h) (Or.inl ⟨by rfl, ?hy35⟩) (S7 _ (Step.of_below b59)) ?rest35
    case hy35 => (intro W hW; obtain q1 := hW; go_simp; try with_reducible rfl)
    try simp only [Go.Act.put, List.setIfInBounds_toArray, List.set_cons_zero, List.set_cons_succ]
    refine wpAnyH_take (i := 3) (v := ?_) rfl (by kernel_rfl) (by kernel_rfl) (by kernel_rfl) (fun _ _ _ h => Late.put (by decide) h) (Or.inl ⟨by rfl, ?hy36⟩) (S7 _ (Step.of_below b59)) ?rest36
    case hy36 => (intro W hW; obtain q1 := hW; go_simp; try with_reducible rfl)
    try simp only [Go.Act.put, List.setIfInBounds_toArray, List.set_cons_zero, List.set_cons_succ]
    refine wpAnyH_one (i := 4) (by kernel_rfl) rfl (fun K hK => ?_)
    go_simp
    refine (hC w5.drew cb (.slice at' n ct') (hV.call b09) (hD.call b09) (hcb5.call b59) ((hvt.call b25).call b59)).mono ?_; rintro e w6 hdo
    obtain ⟨hst, hif⟩ := hdo
    have hst5 : Step (fun k => k = T) w5 w6 := (Step.of_below b59).on hst
    have hst0 : Step (fun k => k = T) w w6 := (Step.of_below b05).on hst5
    have hr6 := (hst5.block w.heap.size (by have := b05.size; have := b2.size; have := b25.size; omega) (by omega)).trans hr5
    by_cases hp0 : o.2.2 = 0
    · rw [if_pos hp0] at hif
      obtain ⟨rfl, ht⟩ := hif
      refine hK _ _ (S7 _ hst5) ?_
      clear hK K
      try simp only [Go.Act.put, List.setIfInBounds_toArray, List.set_cons_zero, List.set_cons_succ]
      have o6 : w6.cell? ⟨w.heap.size, 0, none⟩ = some (.string ⟨#[]⟩) := by rw [World.cell?, hr6]; rfl
      have of6 := frozen_of_row w6 w.heap.size 0 _ _ hr6
      have stO : Step (fun k => k = w.heap.size) w6 (w6.setCell ⟨w.heap.size, 0, none⟩ (.string (bl o.2.1))) := Step.setCell (X := fun k => k = w.heap.size) ⟨w.heap.size, 0, none⟩ _ rfl
      have hr7 := heap_setCell_same w6 w.heap.size 0 _ _ (.string (bl o.2.1)) hr6
      have x7 : (w6.setCell ⟨w.heap.size, 0, none⟩ (.string (bl o.2.1))).cell? ⟨X, 1, none⟩ = some (.func (.func f) #[] #[.pointer (some ⟨cb, 0, none⟩)]) := (stO.cell (p := ⟨X, 1, none⟩) (Nat.lt_of_lt_of_le hXlt hst5.size) (by show ¬ X = w.heap.size; have := b2.size; omega)).trans (S7 _ hst5)
      refine wpAnyH_one (i := 5) (by kernel_rfl) rfl (fun K hK => ?_)
      go_simp
      refine hK _ _ x7 ?_
      clear hK K
      try simp only [Go.Act.put, List.setIfInBounds_toArray, List.set_cons_zero, List.set_cons_succ]
      refine wpAnyH_done (by kernel_rfl) ?_ _
      refine Late.normal ?_
      go_wp2
      exact lineLives _ T r o w _ hp0 rfl hr7 (stepTwo hst0 stO (Nat.le_refl _)) (ht.store hr6 stO) hT
    · rw [if_neg hp0] at hif
      obtain ⟨rfl, ht⟩ := hif
      exact ⟨rfl, rfl, rfl, hp0, _, hr6, hst0, (hV.call b05).keep hst5.size (fun k hk => hst5.block k (by have := hV.big; have := b05.size; omega) (by have := hV.big; omega)), ht⟩
  · skip
    have bX : Below w2.heap.size w2 (w2.alloc (.cells #[.int .i64 0, .nilFunc] 69)).drew := ((Below.refl _ _).alloc (Nat.le_refl _) _).drew
    go_simp
    refine hK _ _ (S1 _ bX) ?_
    clear hK K
    try simp only [Go.Act.put, List.setIfInBounds_toArray, List.set_cons_zero, List.set_cons_succ]
    obtain ⟨X, hX⟩ : ∃ X, X = w2.heap.size := ⟨_, rfl⟩
    obtain ⟨w3, hw3⟩ : ∃ w3, w3 = (w2.alloc (.cells #[.int .i64 0, .nilFunc] 69)).drew := ⟨_, rfl⟩
    have hx3 : w3.heap[X]? = some (.cells #[.int .i64 0, .nilFunc] 69) := by rw [hw3, hX]; exact heap_alloc_new w2 _
    have z3 : w3.heap.size = X + 1 := by rw [hw3, hX]; show (w2.alloc _).heap.size = _; simp
    rw [← hw3] at bX ⊢
    try rw [← hX]
    have hXl : w2.heap.size ≤ X := by rw [hX]; exact Nat.le_refl _
    clear hw3 hX
    refine wpAnyH_one (i := 1) (by kernel_rfl) rfl (fun K hK => ?_)
    go_simp
    refine (deskWords T w3).mono ?_; rintro e w4 ⟨M, cb, rfl, hcb4, hM4, b34⟩
    have b24 : Below w2.heap.size w2 w4 := bX.trans (b34.mono bX.size)
    refine hK _ _ (S1 _ b24) ?_
    clear hK K
    try simp only [Go.Act.put, List.setIfInBounds_toArray, List.set_cons_zero, List.set_cons_succ]
    have hx4 := (b34.block X (by omega)).trans hx3
    have hXM : X ≠ M := by rintro rfl; have := hx4.symm.trans hM4; simp at this
    have hXc : X ≠ cb := by rintro rfl; have := hx4.symm.trans hcb4; simp at this
    refine wpAnyH_more (S' := fun W => W.cell? ⟨b0, o0, none⟩ = some (.string (bl c)) ∧ W.heap[M]? = some (.map (wordsL cb).toArray 9)) (fun _ h => h.1) _ _ _ _ ?_
    refine wpAnyH_take (i := 5) (v := ?_) rfl (by kernel_rfl) (by kernel_rfl) (by kernel_rfl) (fun _ _ _ h => h) (Or.inl ⟨by rfl, ?hy37⟩) ⟨S1 _ b24, hM4⟩ ?rest37
    case hy37 => (intro W hW; obtain ⟨q1, q2⟩ := hW; have hlk := wordsYes hwf (cb := cb) (M := M) (W := W) q2; go_simp; try with_reducible rfl)
    try simp only [Go.Act.put, List.setIfInBounds_toArray, List.set_cons_zero, List.set_cons_succ]
    refine wpAnyH_take (i := 6) (v := ?_) rfl (by kernel_rfl) (by kernel_rfl) (by kernel_rfl) (fun _ _ _ h => h) (Or.inl ⟨by rfl, ?hy38⟩) ⟨S1 _ b24, hM4⟩ ?rest38
    case hy38 => (intro W hW; obtain ⟨q1, q2⟩ := hW; go_simp; try with_reducible rfl)
    try simp only [Go.Act.put, List.setIfInBounds_toArray, List.set_cons_zero, List.set_cons_succ]
    refine wpAnyH_take (i := 7) (v := ?_) rfl (by kernel_rfl) (by kernel_rfl) (by kernel_rfl) (fun _ _ _ h => h) (Or.inl ⟨by rfl, ?hy39⟩) ⟨S1 _ b24, hM4⟩ ?rest39
    case hy39 => (intro W hW; obtain ⟨q1, q2⟩ := hW; go_simp; try with_reducible rfl)
    try simp only [Go.Act.put, List.setIfInBounds_toArray, List.set_cons_zero, List.set_cons_succ]
    refine wpAnyH_take (i := 8) (v := ?_) rfl (by kernel_rfl) (by kernel_rfl) (by kernel_rfl) (fun _ _ _ h => h) (Or.inl ⟨by rfl, ?hy40⟩) ⟨S1 _ b24, hM4⟩ ?rest40
    case hy40 => (intro W hW; obtain ⟨q1, q2⟩ := hW; go_simp; try with_reducible rfl)
    try simp only [Go.Act.put, List.setIfInBounds_toArray, List.set_cons_zero, List.set_cons_succ]
    have x0 : w4.cell? ⟨X, 0, none⟩ = some (.int .i64 0) := by rw [World.cell?, hx4]; rfl
    have x1 : w4.cell? ⟨X, 1, none⟩ = some .nilFunc := by rw [World.cell?, hx4]; rfl
    have xf := fun i => frozen_of_row w4 X i _ _ hx4
    have xf0 := xf 0
    have xf1 := xf 1
    have hx5 := heap_setCell_same (w4.setCell ⟨X, 0, none⟩ (.int .i64 n)) X 1 _ _ (.func (.func f) #[] #[.pointer (some ⟨cb, 0, none⟩)]) (heap_setCell_same w4 X 0 _ _ (.int .i64 n) hx4)
    have b25 : Below w2.heap.size w2 ((w4.setCell ⟨X, 0, none⟩ (.int .i64 n)).setCell ⟨X, 1, none⟩ (.func (.func f) #[] #[.pointer (some ⟨cb, 0, none⟩)])) := (b24.setCell hXl _).setCell hXl _
    have hM5 : ((w4.setCell ⟨X, 0, none⟩ (.int .i64 n)).setCell ⟨X, 1, none⟩ (.func (.func f) #[] #[.pointer (some ⟨cb, 0, none⟩)])).heap[M]? = some (.map (wordsL cb).toArray 9) := (heap_setCell_other _ _ _ _ (Ne.symm hXM)).trans ((heap_setCell_other _ _ _ _ (Ne.symm hXM)).trans hM4)
    have hcb5 : Held ((w4.setCell ⟨X, 0, none⟩ (.int .i64 n)).setCell ⟨X, 1, none⟩ (.func (.func f) #[] #[.pointer (some ⟨cb, 0, none⟩)])) cb T := (heap_setCell_other _ _ _ _ (Ne.symm hXc)).trans ((heap_setCell_other _ _ _ _ (Ne.symm hXc)).trans hcb4)
    refine wpAnyH_one (i := 10) (by kernel_rfl) rfl (fun K hK => ?_)
    go_simp
    refine hK _ _ ⟨S1 _ b25, hM5⟩ ?_
    clear hK K
    try simp only [Go.Act.put, List.setIfInBounds_toArray, List.set_cons_zero, List.set_cons_succ]
    obtain ⟨w5, hw5⟩ : ∃ w5, w5 = (w4.setCell ⟨X, 0, none⟩ (.int .i64 n)).setCell ⟨X, 1, none⟩ (.func (.func f) #[] #[.pointer (some ⟨cb, 0, none⟩)]) := ⟨_, rfl⟩
    rw [← hw5] at hx5 b25 hM5 hcb5 ⊢
    clear hw5 x0 x1 xf xf0 xf1
    refine wpAnyH_one (i := 11) (by kernel_rfl) rfl (fun K hK => ?_)
    go_simp
    refine hK _ _ ⟨S1 _ b25, hM5⟩ ?_
    clear hK K
    try simp only [Go.Act.put, List.setIfInBounds_toArray, List.set_cons_zero, List.set_cons_succ]
    refine wpAnyH_done (by kernel_rfl) ?_ _
    refine NoPanic.normal ?_
    have b05 : Below w.heap.size w w5 := b02.trans (b25.mono b02.size)
    have hr5 := (b25.block w.heap.size (by have := b2.size; omega)).trans ((b2.block w.heap.size (by omega)).trans hr1)
    have y0 : w5.cell? ⟨X, 0, none⟩ = some (.int .i64 n) := by rw [World.cell?, hx5]; rfl
    have y1 : w5.cell? ⟨X, 1, none⟩ = some (.func (.func f) #[] #[.pointer (some ⟨cb, 0, none⟩)]) := by rw [World.cell?, hx5]; rfl
    go_wp2_with fail
    refine (mustOk 1 w5).mono ?_; rintro e w6 ⟨rfl, rfl⟩
    go_wp2_with fail
    refine Code.wp_mono (lateImp T r o w _ hT ho) ?_
    refine wp_region_held (S := fun W => W.cell? ⟨X, 1, none⟩ = some (.func (.func f) #[] #[.pointer (some ⟨cb, 0, none⟩)])) (by kernel_rfl) ?_
    change wpAnyH _ _ _ _ _ _ _ _ (World.drew _)
    have b59 := (Below.refl w5.heap.size w5).drew
    have b09 := b05.trans (b59.mono b05.size)
    have hXlt := (Array.getElem?_eq_some_iff.1 hx5).1
    have hXT : X ≠ T := by have := b2.size; omega
    have S7 : ∀ W, Step (fun k => k = T) w5 W → W.cell? ⟨X, 1, none⟩ = some (.func (.func f) #[] #[.pointer (some ⟨cb, 0, none⟩)]) := fun W hW => (hW.cell (p := ⟨X, 1, none⟩) hXlt hXT).trans y1
    refine wpAnyH_take (i := 0) (v := ?_) rfl (by kernel_rfl) (by kernel_rfl) (by kernel_rfl) (fun _ _ _ h => Late.put (by decide) h) (Or.inl ⟨by rfl, ?hy41⟩) (S7 _ (Step.of_below b59)) ?rest41
    case hy41 => (intro W hW; obtain q1 := hW; go_simp; try with_reducible rfl)
    try simp only [Go.Act.put, List.setIfInBounds_toArray, List.set_cons_zero, List.set_cons_succ]
    refine wpAnyH_take (i := 1) (v := ?_) rfl (by kernel_rfl) (by kernel_rfl) (by kernel_rfl) (fun _ _ _ h => Late.put (by decide) h) (Or.inl ⟨by rfl, ?hy42⟩) (S7 _ (Step.of_below b59)) ?rest42
    case hy42 => (intro W hW; obtain q1 := hW; go_simp; try with_reducible rfl)
    try simp only [Go.Act.put, List.setIfInBounds_toArray, List.set_cons_zero, List.set_cons_succ]
    refine wpAnyH_take (i := 2) (v := ?_) rfl (by kernel_rfl) (by kernel_rfl) (by kernel_rfl) (fun _ _ _ h => Late.put (by decide) h) (Or.inl ⟨by rfl, ?hy43⟩) (S7 _ (Step.of_below b59)) ?rest43
    case hy43 => (intro W hW; obtain q1 := hW; go_simp; try with_reducible rfl)
    try simp only [Go.Act.put, List.setIfInBounds_toArray, List.set_cons_zero, List.set_cons_succ]
    refine wpAnyH_take (i := 3) (v := ?_) rfl (by kernel_rfl) (by kernel_rfl) (by kernel_rfl) (fun _ _ _ h => Late.put (by decide) h) (Or.inl ⟨by rfl, ?hy44⟩) (S7 _ (Step.of_below b59)) ?rest44
    case hy44 => (intro W hW; obtain q1 := hW; go_simp; try with_reducible rfl)
    try simp only [Go.Act.put, List.setIfInBounds_toArray, List.set_cons_zero, List.set_cons_succ]
    refine wpAnyH_one (i := 4) (by kernel_rfl) rfl (fun K hK => ?_)
    go_simp
    refine (hC w5.drew cb (.slice at' n ct') (hV.call b09) (hD.call b09) (hcb5.call b59) ((hvt.call b25).call b59)).mono ?_; rintro e w6 hdo
    obtain ⟨hst, hif⟩ := hdo
    have hst5 : Step (fun k => k = T) w5 w6 := (Step.of_below b59).on hst
    have hst0 : Step (fun k => k = T) w w6 := (Step.of_below b05).on hst5
    have hr6 := (hst5.block w.heap.size (by have := b05.size; have := b2.size; have := b25.size; omega) (by omega)).trans hr5
    by_cases hp0 : o.2.2 = 0
    · rw [if_pos hp0] at hif
      obtain ⟨rfl, ht⟩ := hif
      refine hK _ _ (S7 _ hst5) ?_
      clear hK K
      try simp only [Go.Act.put, List.setIfInBounds_toArray, List.set_cons_zero, List.set_cons_succ]
      have o6 : w6.cell? ⟨w.heap.size, 0, none⟩ = some (.string ⟨#[]⟩) := by rw [World.cell?, hr6]; rfl
      have of6 := frozen_of_row w6 w.heap.size 0 _ _ hr6
      have stO : Step (fun k => k = w.heap.size) w6 (w6.setCell ⟨w.heap.size, 0, none⟩ (.string (bl o.2.1))) := Step.setCell (X := fun k => k = w.heap.size) ⟨w.heap.size, 0, none⟩ _ rfl
      have hr7 := heap_setCell_same w6 w.heap.size 0 _ _ (.string (bl o.2.1)) hr6
      have x7 : (w6.setCell ⟨w.heap.size, 0, none⟩ (.string (bl o.2.1))).cell? ⟨X, 1, none⟩ = some (.func (.func f) #[] #[.pointer (some ⟨cb, 0, none⟩)]) := (stO.cell (p := ⟨X, 1, none⟩) (Nat.lt_of_lt_of_le hXlt hst5.size) (by show ¬ X = w.heap.size; have := b2.size; omega)).trans (S7 _ hst5)
      refine wpAnyH_one (i := 5) (by kernel_rfl) rfl (fun K hK => ?_)
      go_simp
      refine hK _ _ x7 ?_
      clear hK K
      try simp only [Go.Act.put, List.setIfInBounds_toArray, List.set_cons_zero, List.set_cons_succ]
      refine wpAnyH_done (by kernel_rfl) ?_ _
      refine Late.normal ?_
      go_wp2
      exact lineLives _ T r o w _ hp0 rfl hr7 (stepTwo hst0 stO (Nat.le_refl _)) (ht.store hr6 stO) hT
    · rw [if_neg hp0] at hif
      obtain ⟨rfl, ht⟩ := hif
      exact ⟨rfl, rfl, rfl, hp0, _, hr6, hst0, (hV.call b05).keep hst5.size (fun k hk => hst5.block k (by have := hV.big; have := b05.size; omega) (by have := hV.big; omega)), ht⟩
end Go.Pch
end
