/- What must be in any case, of commits. -/
import Derived.Test.YtklgejafblocjaaDagU
import Derived.Test.YtklgejafblocjaaFew
namespace Go.Pch
open Go.RowKit Go.Proofs

theorem litOne (w : World) (n : Int) (hn : i64ok n) : Sl tInt (w.alloc (.cells #[.int .i64 n] 3)) (fun k => w.heap.size ≤ k) (.slice (some ⟨w.heap.size, 0, none⟩) 1 1) [n] :=
  (Own.lit (E := tInt) (e := 3) (B := w.heap.size) (C := fun _ => False) (Each.one [.int .i64 n] n ⟨rfl, hn⟩) rfl (by simp [maxLen]) (Nat.le_refl _)).sl (fun _ h => h.elim) (fun _ h => h)
theorem lit12 (w : World) : Sl tInt (w.alloc (.cells #[.int .i64 1, .int .i64 2] 3)) (fun k => w.heap.size ≤ k) (.slice (some ⟨w.heap.size, 0, none⟩) 2 2) [1, 2] :=
  (Own.lit (E := tInt) (e := 3) (B := w.heap.size) (C := fun _ => False) (xs := [[.int .i64 1], [.int .i64 2]]) ((Each.one (E := tInt) [.int .i64 1] 1 ⟨rfl, ok_small (by omega)⟩).app (Each.one (E := tInt) [.int .i64 2] 2 ⟨rfl, ok_small (by omega)⟩)) rfl (by simp [maxLen]) (Nat.le_refl _)).sl (fun _ h => h.elim) (fun _ h => h)
theorem oneBool (w : World) (C : Blk) (b : Bool) : Each tBool w C [[.bool b]] [b] := Each.one _ _ ⟨rfl, trivial⟩
theorem litBools (w : World) : Sl tBool (w.alloc (.cells #[.bool true, .bool true, .bool true, .bool true, .bool false, .bool false] 4)) (fun k => w.heap.size ≤ k) (.slice (some ⟨w.heap.size, 0, none⟩) 6 6) [true, true, true, true, false, false] :=
  (Own.lit (E := tBool) (e := 4) (B := w.heap.size) (C := fun _ => False) ((((((oneBool w _ true).app (oneBool w _ true)).app (oneBool w _ true)).app (oneBool w _ true)).app (oneBool w _ false)).app (oneBool w _ false)) rfl (by simp [maxLen]) (Nat.le_refl _)).sl (fun _ h => h.elim) (fun _ h => h)

def crossL : List Commit := [([], []), (fewL, [0]), ([], [0]), ([], [1, 2]), ([], [1, 2]), ([], [])]

set_option maxRecDepth 100000 in
set_option maxHeartbeats 1000000 in
theorem lawCross (w : World) : Calls Try.prog 37 #[] w (Ret w fun r w' => ∃ g, w.heap.size ≤ g ∧ g < w'.heap.size ∧ r = .slice (some ⟨g, 0, none⟩) 6 6 ∧ Row1 tCommit w' g (fun k => w.heap.size ≤ k ∧ k < g) crossL) := by
  go_enter Try.func37, Try.ntmps37
  go_wp2_with fail
  refine (lawFew w).mono ?_; rintro e w1 ⟨vf, rfl, hf, b1⟩
  obtain ⟨af, cf, rfl, _, _, _⟩ := hf.shape
  have one : ∀ (w : World) (n : Int), i64ok n → Sl tInt (w.alloc (.cells #[.int .i64 n] 3)) (fun k => w.heap.size ≤ k) (.slice (some ⟨w.heap.size, 0, none⟩) 1 1) [n] := fun w n hn =>
    (Own.lit (E := tInt) (e := 3) (B := w.heap.size) (C := fun _ => False) (Each.one [.int .i64 n] n ⟨rfl, hn⟩) rfl (by simp [maxLen]) (Nat.le_refl _)).sl (fun _ h => h.elim) (fun _ h => h)
  have two : ∀ (w : World), Sl tInt (w.alloc (.cells #[.int .i64 1, .int .i64 2] 3)) (fun k => w.heap.size ≤ k) (.slice (some ⟨w.heap.size, 0, none⟩) 2 2) [1, 2] := fun w =>
    (Own.lit (E := tInt) (e := 3) (B := w.heap.size) (C := fun _ => False) (xs := [[.int .i64 1], [.int .i64 2]]) ((Each.one (E := tInt) [.int .i64 1] 1 ⟨rfl, ok_small (by omega)⟩).app (Each.one (E := tInt) [.int .i64 2] 2 ⟨rfl, ok_small (by omega)⟩)) rfl (by simp [maxLen]) (Nat.le_refl _)).sl (fun _ h => h.elim) (fun _ h => h)
  have p1 := one w1 0 (ok_small (by omega))
  have q1 := (Below.refl w1.heap.size w1).alloc (Nat.le_refl _) (.cells #[.int .i64 0] 3)
  generalize hW1 : w1.alloc (.cells #[.int .i64 0] 3) = W1 at p1 q1
  have z1 : W1.heap.size = w1.heap.size + 1 := by rw [← hW1]; simp
  have p2 := one W1 0 (ok_small (by omega))
  have q2 := (Below.refl W1.heap.size W1).alloc (Nat.le_refl _) (.cells #[.int .i64 0] 3)
  generalize hW2 : W1.alloc (.cells #[.int .i64 0] 3) = W2 at p2 q2
  have z2 : W2.heap.size = w1.heap.size + 1 + 1 := by rw [← hW2]; simp [z1]
  have p3 := two W2
  have q3 := (Below.refl W2.heap.size W2).alloc (Nat.le_refl _) (.cells #[.int .i64 1, .int .i64 2] 3)
  generalize hW3 : W2.alloc (.cells #[.int .i64 1, .int .i64 2] 3) = W3 at p3 q3
  have z3 : W3.heap.size = w1.heap.size + 1 + 1 + 1 := by rw [← hW3]; simp [z2]
  have p4 := two W3
  have q4 := (Below.refl W3.heap.size W3).alloc (Nat.le_refl _) (.cells #[.int .i64 1, .int .i64 2] 3)
  generalize hW4 : W3.alloc (.cells #[.int .i64 1, .int .i64 2] 3) = W4 at p4 q4
  have z4 : W4.heap.size = w1.heap.size + 1 + 1 + 1 + 1 := by rw [← hW4]; simp [z3]
  rw [z1] at p2; rw [z2] at p3; rw [z3] at p4
  have hs1 := b1.size
  have hfW : Sl tRow W4 (fun k => w.heap.size ≤ k ∧ k < W4.heap.size) (.slice af fewL.length cf) fewL := ((((hf.call q1).call q2).call q3).call q4).mono fun k hk hlt => ⟨hk, hlt⟩
  have P1 : Sl tInt W4 (fun k => w.heap.size ≤ k ∧ k < W4.heap.size) (.slice (some ⟨w1.heap.size, 0, none⟩) 1 1) [0] := (((p1.call q2).call q3).call q4).mono fun k hk hlt => ⟨by omega, hlt⟩
  have P2 : Sl tInt W4 (fun k => w.heap.size ≤ k ∧ k < W4.heap.size) (.slice (some ⟨w1.heap.size + 1, 0, none⟩) 1 1) [0] := ((p2.call q3).call q4).mono fun k hk hlt => ⟨by omega, hlt⟩
  have P3 : Sl tInt W4 (fun k => w.heap.size ≤ k ∧ k < W4.heap.size) (.slice (some ⟨w1.heap.size + 1 + 1, 0, none⟩) 2 2) [1, 2] := (p3.call q4).mono fun k hk hlt => ⟨by omega, hlt⟩
  have P4 : Sl tInt W4 (fun k => w.heap.size ≤ k ∧ k < W4.heap.size) (.slice (some ⟨w1.heap.size + 1 + 1 + 1, 0, none⟩) 2 2) [1, 2] := p4.mono fun k hk hlt => ⟨by omega, hlt⟩
  have nR := Sl.nil tRow W4 (fun k => w.heap.size ≤ k ∧ k < W4.heap.size)
  have nI := Sl.nil tInt W4 (fun k => w.heap.size ≤ k ∧ k < W4.heap.size)
  have hE := (((((Each.one _ _ (tCommit_mk nR nI)).app (Each.one _ _ (tCommit_mk hfW P1))).app (Each.one _ _ (tCommit_mk nR P2))).app (Each.one _ _ (tCommit_mk nR P3))).app (Each.one _ _ (tCommit_mk nR P4))).app (Each.one _ _ (tCommit_mk nR nI))
  have hR := Row1.lit hE rfl 65
  have hBW := b1.trans (((q1.trans (q2.mono (by omega))).trans ((q3.mono (by omega)).trans (q4.mono (by omega)))).mono hs1)
  have hBA := hBW.alloc (by omega) (.cells #[.slice none 0 0, .slice none 0 0, .slice af fewL.length cf, .slice (some ⟨w1.heap.size, 0, none⟩) 1 1, .slice none 0 0, .slice (some ⟨w1.heap.size + 1, 0, none⟩) 1 1, .slice none 0 0, .slice (some ⟨w1.heap.size + 1 + 1, 0, none⟩) 2 2, .slice none 0 0, .slice (some ⟨w1.heap.size + 1 + 1 + 1, 0, none⟩) 2 2, .slice none 0 0, .slice none 0 0] 65)
  go_wp2_with fail
  go_ret
  refine ⟨_, rfl, ⟨W4.heap.size, by omega, by simp, by rw [z4]; rfl, hR⟩, hBA⟩

theorem dagAbove_of {c : List Bool × Int} (v : Value) (l : List Commit) (n : Int) (S : Blk) (w : World) (h : Sl tCommit w S v l) (hn : i64ok n) (hc : aboveP l n = c) :
    Calls Try.prog 9 #[v, .int .i64 n] w (Ret w fun r w' => ∃ x, r = .tuple #[x, .int .i64 c.2] ∧ Sl tBool w' (fun k => w.heap.size ≤ k) x c.1) := hc ▸ dagAbove v l n S w h hn
theorem dagBases_of {c : List Int × Int} (v : Value) (l : List Commit) (a b : Int) (S : Blk) (w : World) (h : Sl tCommit w S v l) (ha : i64ok a) (hb : i64ok b) (hc : basesP l a b = c) :
    Calls Try.prog 16 #[v, .int .i64 a, .int .i64 b] w (Ret w fun r w' => ∃ x, r = .tuple #[x, .int .i64 c.2] ∧ Sl tInt w' (fun k => w.heap.size ≤ k) x c.1) := hc ▸ dagBases v l a b S w h ha hb
theorem abv3 : aboveP crossL 3 = ([true, true, true, true, false, false], 0) := by decide
theorem abv6 : aboveP crossL 6 = ([], 5) := by decide
theorem bas34 : basesP crossL 3 4 = ([1, 2], 0) := by decide
theorem bas31 : basesP crossL 3 1 = ([1], 0) := by decide
theorem bas35 : basesP crossL 3 5 = ([], 0) := by decide
theorem okCross : commitsErr crossL = 0 := by decide
theorem badCross : commitsErr [([], []), (fewL, [1]), ([], [0]), ([], [1, 2]), ([], [1, 2]), ([], [])] = 1 := by decide

set_option maxRecDepth 100000 in
set_option maxHeartbeats 2000000 in
theorem dagBegun (w : World) : Calls Try.prog 12 #[] w (Ret w fun r _ => r = .bool true) := by
  go_enter Try.func12, Try.ntmps12
  go_wp2_with fail
  refine (lawCross w).mono ?_; rintro e w1 ⟨_, rfl, ⟨g1, l1, u1, rfl, h1⟩, b1⟩
  go_wp2_with fail
  refine (dagAbove_of _ crossL 3 _ w1 (h1.sl (S := fun _ => True) (fun _ _ => trivial) trivial (by decide) 6 rfl) (ok_small (by omega)) abv3).mono ?_; rintro e w2 ⟨_, rfl, ⟨a, rfl, h2⟩, b2⟩
  have c2 := b1.trans (b2.mono b1.size)
  go_wp2_with fail
  refine (lawCross w2).mono ?_; rintro e w3 ⟨_, rfl, ⟨g3, l3, u3, rfl, h3⟩, b3⟩
  have c3 := c2.trans (b3.mono c2.size)
  go_wp2_with fail
  refine (dagBases_of _ crossL 3 4 _ w3 (h3.sl (S := fun _ => True) (fun _ _ => trivial) trivial (by decide) 6 rfl) (ok_small (by omega)) (ok_small (by omega)) bas34).mono ?_; rintro e w4 ⟨_, rfl, ⟨bb, rfl, h4⟩, b4⟩
  have c4 := c3.trans (b4.mono c3.size)
  go_wp2_with fail
  refine (lawCross w4).mono ?_; rintro e w5 ⟨_, rfl, ⟨g5, l5, u5, rfl, h5⟩, b5⟩
  have c5 := c4.trans (b5.mono c4.size)
  go_wp2_with fail
  refine (dagBases_of _ crossL 3 1 _ w5 (h5.sl (S := fun _ => True) (fun _ _ => trivial) trivial (by decide) 6 rfl) (ok_small (by omega)) (ok_small (by omega)) bas31).mono ?_; rintro e w6 ⟨_, rfl, ⟨cc, rfl, h6⟩, b6⟩
  have c6 := c5.trans (b6.mono c5.size)
  go_wp2_with fail
  refine (lawCross w6).mono ?_; rintro e w7 ⟨_, rfl, ⟨g7, l7, u7, rfl, h7⟩, b7⟩
  have c7 := c6.trans (b7.mono c6.size)
  go_wp2_with fail
  refine (dagBases_of _ crossL 3 5 _ w7 (h7.sl (S := fun _ => True) (fun _ _ => trivial) trivial (by decide) 6 rfl) (ok_small (by omega)) (ok_small (by omega)) bas35).mono ?_; rintro e w8 ⟨_, rfl, ⟨dd, rfl, h8⟩, b8⟩
  have c8 := c7.trans (b8.mono c7.size)
  go_wp2_with fail
  refine (lawCross w8).mono ?_; rintro e w9 ⟨_, rfl, ⟨g9, l9, u9, rfl, h9⟩, b9⟩
  have c9 := c8.trans (b9.mono c8.size)
  go_wp2_with fail
  refine (dagAbove_of _ crossL 6 _ w9 (h9.sl (S := fun _ => True) (fun _ _ => trivial) trivial (by decide) 6 rfl) (ok_small (by omega)) abv6).mono ?_; rintro e w10 ⟨_, rfl, ⟨ee, rfl, h10⟩, b10⟩
  have c10 := c9.trans (b10.mono c9.size)
  go_wp2_with fail
  refine (lawCross w10).mono ?_; rintro e w11 ⟨_, rfl, ⟨g11, l11, u11, rfl, h11⟩, b11⟩
  have c11 := c10.trans (b11.mono c10.size)
  have hix : ∀ W, Sem.run Try.prog (Instr.indexAt 22 (.slice (some ⟨g11, 0, none⟩) 6 6) (.int .i64 1)) W = .ok (.pointer (some ⟨g11, 2, none⟩)) W := fun W => run_idx aCom 1 1 rfl (by decide) W
  obtain ⟨cs, hcs, hcell⟩ := h11 1 (fewL, [0]) rfl
  obtain ⟨x0, y0, rfl, hx0, hy0⟩ := rd_commit hcs
  have hc3 : w11.cell? ⟨g11, 3, none⟩ = some y0 := (hcell 1 y0 rfl).1
  have hf3 : w11.frozen? ⟨g11, 3, none⟩ = false := (hcell 1 y0 rfl).2
  obtain ⟨ad, cd, rfl, _, _, _⟩ := h8.shapeAt 0 rfl
  clear hcell hcs hx0 hy0
  have hi1 : Sl tInt (w11.alloc (.cells #[.int .i64 1] 3)) (fun k => k ≠ g11) (.slice (some ⟨w11.heap.size, 0, none⟩) 1 1) [1] :=
    (Own.lit (E := tInt) (e := 3) (B := w11.heap.size) (C := fun _ => False) (Each.one [.int .i64 1] 1 ⟨rfl, ok_small (by omega)⟩) rfl (by simp [maxLen]) (Nat.le_refl _)).sl (fun _ h => h.elim) (fun k h => by omega)
  have hA := (Below.refl w11.heap.size w11).alloc (Nat.le_refl _) (.cells #[.int .i64 1] 3)
  have hrow := ((h11.call hA).mono (S := fun k => k ≠ g11) (fun k hk => by omega)).parents (fun h => h rfl) (i := 1) (r := fewL) (p := [0]) rfl hi1
  have hB12 : Below w.heap.size w ((w11.alloc (.cells #[.int .i64 1] 3)).setCell ⟨g11, 1 * 2 + 1, none⟩ (.slice (some ⟨w11.heap.size, 0, none⟩) 1 1)) :=
    (c11.alloc c11.size _).setCell (by have := c10.size; show w.heap.size ≤ g11; omega) _
  have hB10 : Below w10.heap.size w10 ((w11.alloc (.cells #[.int .i64 1] 3)).setCell ⟨g11, 1 * 2 + 1, none⟩ (.slice (some ⟨w11.heap.size, 0, none⟩) 1 1)) :=
    (b11.alloc b11.size _).setCell l11 _
  rw [World.setCell_alloc_past _ _ _ _ u11] at hrow hB12 hB10
  simp only [Nat.reduceMul, Nat.reduceAdd] at hrow hB12 hB10
  generalize hW12 : (w11.setCell ⟨g11, 3, none⟩ (.slice (some ⟨w11.heap.size, 0, none⟩) 1 1)).alloc (.cells #[.int .i64 1] 3) = W at hrow hB12 hB10
  have k2 := ((((((((h2.call b3).call b4).call b5).call b6).call b7).call b8).call b9).call b10).call hB10
  have k4 := ((((((h4.call b5).call b6).call b7).call b8).call b9).call b10).call hB10
  have k6 := ((((h6.call b7).call b8).call b9).call b10).call hB10
  have kx : Sl tCommit W (fun _ => True) (.slice (some ⟨g11, 0, none⟩) 6 6) [([], []), (fewL, [1]), ([], [0]), ([], [1, 2]), ([], [1, 2]), ([], [])] := hrow.sl (fun _ _ => trivial) trivial (by decide) 6 rfl
  clear h2 h4 h6 hrow b1 b2 b3 b4 b5 b6 b7 b8 b9 b10 b11 c2 c3 c4 c5 c6 c7 c8 c9 c10 c11 hB10 hA hi1
  go_wp2_with fail
  refine (lawCross W).mono ?_; rintro e w13 ⟨_, rfl, ⟨g13, l13, u13, rfl, h13⟩, b13⟩
  have s13 := b13.size
  go_wp2_with fail
  refine (dagCheck_of _ crossL _ w13 (h13.sl (S := fun _ => True) (fun _ _ => trivial) trivial (by decide) 6 rfl) okCross).mono ?_; rintro e w14 ⟨_, rfl, rfl, b14⟩
  have m14 := b13.trans (b14.mono s13)
  go_wp2_with fail
  refine (dagCheck_of _ _ _ w14 (kx.call m14) badCross).mono ?_; rintro e w15 ⟨_, rfl, rfl, b15⟩
  have m15 := m14.trans (b15.mono m14.size)
  have hl1 := litBools w15
  have a15 := m15.alloc m15.size (.cells #[.bool true, .bool true, .bool true, .bool true, .bool false, .bool false] 4)
  go_wp2_with fail
  refine (refSameBools_of (c := true) _ _ _ _ _ _ _ (k2.call a15) hl1 (by decide)).mono ?_; rintro e w16 ⟨rfl, d16⟩
  have m16 := a15.trans (d16.below.mono a15.size)
  have hl2 := lit12 w16
  have a16 := m16.alloc m16.size (.cells #[.int .i64 1, .int .i64 2] 3)
  go_wp2_with fail
  refine (refSameInts_of (c := true) _ _ _ _ _ _ _ (k4.call a16) hl2 (by decide)).mono ?_; rintro e w17 ⟨rfl, d17⟩
  have m17 := a16.trans (d17.below.mono a16.size)
  have hl3 := litOne w17 1 (ok_small (by omega))
  have a17 := m17.alloc m17.size (.cells #[.int .i64 1] 3)
  go_wp2_with fail
  refine (refSameInts_of (c := true) _ _ _ _ _ _ _ (k6.call a17) hl3 (by decide)).mono ?_; rintro e w18 ⟨rfl, d18⟩
  have m18 := a17.trans (d18.below.mono a17.size)
  go_wp2
  go_ret
  exact ⟨_, rfl, rfl, hB12.trans (m18.mono hB12.size)⟩

end Go.Pch
