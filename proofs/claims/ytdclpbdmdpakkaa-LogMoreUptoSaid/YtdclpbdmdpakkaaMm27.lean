/- The walks on bases: what the document says of them; dag.Bases. What must be in any case, of commits. -/
import Derived.Test.YtdclpbdmdpakkaaMm26
import Derived.Test.YtdclpbdmdpakkaaMm19
section
namespace Go.Pch
open Go.RowKit Go.Proofs

def basesP (l : List Commit) (a b : Int) : List Int × Int := if thereAll l [a, b] = 0 then (basesL l a.toNat b.toNat, 0) else ([], thereAll l [a, b])
theorem thereAll_two (l : List Commit) (a b : Int) : thereAll l [a, b] = if thereErr l a ≠ 0 then thereErr l a else thereErr l b := by
  unfold thereAll thereErr
  by_cases h : commitsErr l = 0
  · have e : ∀ n : Int, inB l.length n = (decide (0 ≤ n) && decide (n < l.length)) := fun n => by rw [Bool.eq_iff_iff]; simp [inB]; omega
    simp only [h, ne_eq, not_true_eq_false, if_false, List.all_cons, List.all_nil, Bool.and_true, e]
    cases (decide (0 ≤ a) && decide (a < (l.length : Int))) <;> cases (decide (0 ≤ b) && decide (b < (l.length : Int))) <;> simp
  · simp [h]


/-- A base so far: looked at up to i. -/
def isB (l : List Commit) (a b k i : Nat) : Bool := ab l a k && ab l b k && !((List.range i).any fun j => decide (k < j) && (ab l a j && ab l b j) && ab l j k)
theorem isB_begin (l : List Commit) (a b k : Nat) : isB l a b k (k + 1) = (ab l a k && ab l b k) := by
  have : ((List.range (k + 1)).any fun j => decide (k < j) && (ab l a j && ab l b j) && ab l j k) = false := by
    rw [List.any_eq_false]
    intro j hj
    have : ¬ k < j := by simp at hj; omega
    simp [this]
  rw [isB, this]; simp
theorem isB_next (l : List Commit) (a b k i : Nat) (h : k < i) : isB l a b k (i + 1) = (isB l a b k i && !((ab l a i && ab l b i) && ab l i k)) := by
  rw [isB, List.range_succ, List.any_append, isB]
  simp [h, Bool.not_or, Bool.and_assoc]
theorem isB_end (l : List Commit) (a b k : Nat) : isB l a b k l.length = baseB l a b k := rfl


end Go.Pch
end

section
namespace Go.Pch
open Go.RowKit Go.Proofs

theorem dLitOne (w : World) (n : Int) (hn : i64ok n) : Sl tInt (w.alloc (.cells #[.int .i64 n] 3)) (fun k => w.heap.size ≤ k) (.slice (some ⟨w.heap.size, 0, none⟩) 1 1) [n] :=
  (Own.lit (E := tInt) (e := 3) (B := w.heap.size) (C := fun _ => False) (Each.one [.int .i64 n] n ⟨rfl, hn⟩) rfl (by simp [maxLen]) (Nat.le_refl _)).sl (fun _ h => h.elim) (fun _ h => h)
theorem lit12 (w : World) : Sl tInt (w.alloc (.cells #[.int .i64 1, .int .i64 2] 3)) (fun k => w.heap.size ≤ k) (.slice (some ⟨w.heap.size, 0, none⟩) 2 2) [1, 2] :=
  (Own.lit (E := tInt) (e := 3) (B := w.heap.size) (C := fun _ => False) (xs := [[.int .i64 1], [.int .i64 2]]) ((Each.one (E := tInt) [.int .i64 1] 1 ⟨rfl, ok_small (by omega)⟩).app (Each.one (E := tInt) [.int .i64 2] 2 ⟨rfl, ok_small (by omega)⟩)) rfl (by simp [maxLen]) (Nat.le_refl _)).sl (fun _ h => h.elim) (fun _ h => h)
theorem oneBool (w : World) (C : Blk) (b : Bool) : Each tBool w C [[.bool b]] [b] := Each.one _ _ ⟨rfl, trivial⟩
theorem litBools (w : World) : Sl tBool (w.alloc (.cells #[.bool true, .bool true, .bool true, .bool true, .bool false, .bool false] 4)) (fun k => w.heap.size ≤ k) (.slice (some ⟨w.heap.size, 0, none⟩) 6 6) [true, true, true, true, false, false] :=
  (Own.lit (E := tBool) (e := 4) (B := w.heap.size) (C := fun _ => False) ((((((oneBool w _ true).app (oneBool w _ true)).app (oneBool w _ true)).app (oneBool w _ true)).app (oneBool w _ false)).app (oneBool w _ false)) rfl (by simp [maxLen]) (Nat.le_refl _)).sl (fun _ h => h.elim) (fun _ h => h)

def crossL : List Commit := [([], []), (fewL, [0]), ([], [0]), ([], [1, 2]), ([], [1, 2]), ([], [])]

set_option maxRecDepth 100000 in
set_option maxHeartbeats 1000000 in
theorem lawCross (w : World) : Calls Try.prog 73 #[] w (Ret w fun r w' => ∃ g, w.heap.size ≤ g ∧ g < w'.heap.size ∧ r = .slice (some ⟨g, 0, none⟩) 6 6 ∧ Row1 tCommit w' g (fun k => w.heap.size ≤ k ∧ k < g) crossL) := by
  go_enter Try.func73, Try.ntmps73
  go_wp2_with fail
  refine (lawFew w).mono ?_; rintro e w1 ⟨vf, rfl, hf, b1⟩
  obtain ⟨af, cf, rfl, _, _, _⟩ := hf.shape
  have one : ∀ (w : World) (n : Int), i64ok n → Sl tInt (w.alloc (.cells #[.int .i64 n] 3)) (fun k => w.heap.size ≤ k) (.slice (some ⟨w.heap.size, 0, none⟩) 1 1) [n] := fun w n hn =>
    (Own.lit (E := tInt) (e := 3) (B := w.heap.size) (C := fun _ => False) (Each.one [.int .i64 n] n ⟨rfl, hn⟩) rfl (by simp [maxLen]) (Nat.le_refl _)).sl (fun _ h => h.elim) (fun _ h => h)
  have two : ∀ (w : World), Sl tInt (w.alloc (.cells #[.int .i64 1, .int .i64 2] 3)) (fun k => w.heap.size ≤ k) (.slice (some ⟨w.heap.size, 0, none⟩) 2 2) [1, 2] := fun w =>
    (Own.lit (E := tInt) (e := 3) (B := w.heap.size) (C := fun _ => False) (xs := [[.int .i64 1], [.int .i64 2]]) ((Each.one (E := tInt) [.int .i64 1] 1 ⟨rfl, ok_small (by omega)⟩).app (Each.one (E := tInt) [.int .i64 2] 2 ⟨rfl, ok_small (by omega)⟩)) rfl (by simp [maxLen]) (Nat.le_refl _)).sl (fun _ h => h.elim) (fun _ h => h)
  have p1 := one w1 0 (ok_small (by omega))
  have q1 := (Below.refl w1.heap.size w1).alloc (Nat.le_refl _) (.cells #[.int .i64 0] 3)
  generalize hW1 : w1.alloc (.cells #[.int .i64 0] 3) = W1 at p1 q1
  have z1 : W1.heap.size = w1.heap.size + 1 := by rw [← hW1]; simp
  have p2 := one W1 0 (ok_small (by omega))
  have q2 := (Below.refl W1.heap.size W1).alloc (Nat.le_refl _) (.cells #[.int .i64 0] 3)
  generalize hW2 : W1.alloc (.cells #[.int .i64 0] 3) = W2 at p2 q2
  have z2 : W2.heap.size = w1.heap.size + 1 + 1 := by rw [← hW2]; simp [z1]
  have p3 := two W2
  have q3 := (Below.refl W2.heap.size W2).alloc (Nat.le_refl _) (.cells #[.int .i64 1, .int .i64 2] 3)
  generalize hW3 : W2.alloc (.cells #[.int .i64 1, .int .i64 2] 3) = W3 at p3 q3
  have z3 : W3.heap.size = w1.heap.size + 1 + 1 + 1 := by rw [← hW3]; simp [z2]
  have p4 := two W3
  have q4 := (Below.refl W3.heap.size W3).alloc (Nat.le_refl _) (.cells #[.int .i64 1, .int .i64 2] 3)
  generalize hW4 : W3.alloc (.cells #[.int .i64 1, .int .i64 2] 3) = W4 at p4 q4
  have z4 : W4.heap.size = w1.heap.size + 1 + 1 + 1 + 1 := by rw [← hW4]; simp [z3]
  rw [z1] at p2; rw [z2] at p3; rw [z3] at p4
  have hs1 := b1.size
  have hfW : Sl tRow W4 (fun k => w.heap.size ≤ k ∧ k < W4.heap.size) (.slice af fewL.length cf) fewL := ((((hf.call q1).call q2).call q3).call q4).mono fun k hk hlt => ⟨hk, hlt⟩
  have P1 : Sl tInt W4 (fun k => w.heap.size ≤ k ∧ k < W4.heap.size) (.slice (some ⟨w1.heap.size, 0, none⟩) 1 1) [0] := (((p1.call q2).call q3).call q4).mono fun k hk hlt => ⟨by omega, hlt⟩
  have P2 : Sl tInt W4 (fun k => w.heap.size ≤ k ∧ k < W4.heap.size) (.slice (some ⟨w1.heap.size + 1, 0, none⟩) 1 1) [0] := ((p2.call q3).call q4).mono fun k hk hlt => ⟨by omega, hlt⟩
  have P3 : Sl tInt W4 (fun k => w.heap.size ≤ k ∧ k < W4.heap.size) (.slice (some ⟨w1.heap.size + 1 + 1, 0, none⟩) 2 2) [1, 2] := (p3.call q4).mono fun k hk hlt => ⟨by omega, hlt⟩
  have P4 : Sl tInt W4 (fun k => w.heap.size ≤ k ∧ k < W4.heap.size) (.slice (some ⟨w1.heap.size + 1 + 1 + 1, 0, none⟩) 2 2) [1, 2] := p4.mono fun k hk hlt => ⟨by omega, hlt⟩
  have nR := Sl.nil tRow W4 (fun k => w.heap.size ≤ k ∧ k < W4.heap.size)
  have nI := Sl.nil tInt W4 (fun k => w.heap.size ≤ k ∧ k < W4.heap.size)
  have hE := (((((Each.one _ _ (tCommit_mk nR nI)).app (Each.one _ _ (tCommit_mk hfW P1))).app (Each.one _ _ (tCommit_mk nR P2))).app (Each.one _ _ (tCommit_mk nR P3))).app (Each.one _ _ (tCommit_mk nR P4))).app (Each.one _ _ (tCommit_mk nR nI))
  have hR := Row1.lit hE rfl 44
  have hBW := b1.trans (((q1.trans (q2.mono (by omega))).trans ((q3.mono (by omega)).trans (q4.mono (by omega)))).mono hs1)
  have hBA := hBW.alloc (by omega) (.cells #[.slice none 0 0, .slice none 0 0, .slice af fewL.length cf, .slice (some ⟨w1.heap.size, 0, none⟩) 1 1, .slice none 0 0, .slice (some ⟨w1.heap.size + 1, 0, none⟩) 1 1, .slice none 0 0, .slice (some ⟨w1.heap.size + 1 + 1, 0, none⟩) 2 2, .slice none 0 0, .slice (some ⟨w1.heap.size + 1 + 1 + 1, 0, none⟩) 2 2, .slice none 0 0, .slice none 0 0] 44)
  go_wp2_with fail
  go_ret
  refine ⟨_, rfl, ⟨W4.heap.size, by omega, by simp, by rw [z4]; rfl, hR⟩, hBA⟩

theorem dagAbove_of {c : List Bool × Int} (v : Value) (l : List Commit) (n : Int) (S : Blk) (w : World) (h : Sl tCommit w S v l) (hn : i64ok n) (hc : aboveP l n = c) :
    Calls Try.prog 23 #[v, .int .i64 n] w (Ret w fun r w' => ∃ x, r = .tuple #[x, .int .i64 c.2] ∧ Sl tBool w' (fun k => w.heap.size ≤ k) x c.1) := hc ▸ dagAbove v l n S w h hn
theorem abv3 : aboveP crossL 3 = ([true, true, true, true, false, false], 0) := by decide
theorem abv6 : aboveP crossL 6 = ([], 5) := by decide
theorem bas34 : basesP crossL 3 4 = ([1, 2], 0) := by decide
theorem bas31 : basesP crossL 3 1 = ([1], 0) := by decide
theorem bas35 : basesP crossL 3 5 = ([], 0) := by decide
theorem okCross : commitsErr crossL = 0 := by decide
theorem badCross : commitsErr [([], []), (fewL, [1]), ([], [0]), ([], [1, 2]), ([], [1, 2]), ([], [])] = 1 := by decide


end Go.Pch
end
