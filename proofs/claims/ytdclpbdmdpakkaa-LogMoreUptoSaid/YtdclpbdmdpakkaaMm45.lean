/- Chapter 11: an act's bytes, by their places: plain words and laws. What logBegun looks at: plain facts. The walk of logBegun. From a row's data to what a value reads as; no program is named here. What the program's types read as. From a row's data of a bounded bulk to what a value reads as, and how much that is. Changes, read from data. -/
import Derived.Test.YtdclpbdmdpakkaaMm15
import Derived.Test.YtdclpbdmdpakkaaMm38
import Derived.Test.YtdclpbdmdpakkaaMm44
import Derived.Test.YtdclpbdmdpakkaaMm37
import Derived.Test.YtdclpbdmdpakkaaMm2
import Derived.ProofKit
import Derived.OpenShut
import Derived.Deep.Slices
import Derived.ChangeSame
import Derived.Test.YtdclpbdmdpakkaaMm17
import Derived.Test.YtdclpbdmdpakkaaRows
import Derived.Test.YtdclpbdmdpakkaaMm19
section
namespace Go.Pch
open Go.RowKit Go.Proofs

/-- The byte at a place. -/
def bAt (t : Bytes) (i : Nat) : Nat := (t.getD i 0).toNat
theorem bAt_lt (t : Bytes) (i : Nat) : bAt t i < 256 := (t.getD i 0).toNat_lt
theorem drop_at {t : Bytes} {i : Nat} (h : i < t.length) : t.drop i = t.getD i 0 :: t.drop (i + 1) := by
  rw [List.drop_eq_getElem_cons h, List.getD_eq_getElem?_getD, List.getElem?_eq_getElem h]; rfl
theorem drop_no {t : Bytes} {i : Nat} (h : ¬ i < t.length) : t.drop i = [] := List.drop_eq_nil_of_le (by omega)
theorem num1_at (t : Bytes) (i : Nat) : num1 (t.drop i) = if i < t.length then some ((bAt t i : Int), t.drop (i + 1)) else none := by
  split
  · rename_i h; rw [drop_at h]; rfl
  · rename_i h; rw [drop_no h]; rfl
theorem num2_at (t : Bytes) (i : Nat) : num2 (t.drop i) = if i + 1 < t.length then some (256 * (bAt t i : Int) + bAt t (i + 1), t.drop (i + 2)) else none := by
  split
  · rename_i h; rw [drop_at (i := i) (by omega), drop_at (i := i + 1) h]; rfl
  · rename_i h
    by_cases h0 : i < t.length
    · rw [drop_at h0, drop_no h]; rfl
    · rw [drop_no h0]; rfl
/-- The change at a place. -/
def chgAt (t : Bytes) (i : Nat) : Change := ((bAt t i : Int), 256 * (bAt t (i + 1) : Int) + bAt t (i + 2) - 1, 256 * (bAt t (i + 3) : Int) + bAt t (i + 4) - 1)
theorem chgG_at (t : Bytes) (i : Nat) : chgG (t.drop i) = if i + 5 ≤ t.length then some (chgAt t i, t.drop (i + 5)) else none := by
  rw [chgG, num1_at]
  by_cases h0 : i < t.length
  · rw [if_pos h0]
    simp only [Option.bind_some]
    rw [num2_at]
    by_cases h1 : i + 1 + 1 < t.length
    · rw [if_pos h1]
      simp only [Option.bind_some]
      rw [num2_at]
      by_cases h2 : i + 1 + 2 + 1 < t.length
      · rw [if_pos h2, if_pos (by omega)]; rfl
      · rw [if_neg h2, if_neg (by omega)]; rfl
    · rw [if_neg h1, if_neg (by omega)]; rfl
  · rw [if_neg h0, if_neg (by omega)]; rfl
/-- Changes from a place. -/
def chgsAt (t : Bytes) (i n : Nat) : List Change := (List.range n).map fun j => chgAt t (i + 5 * j)
theorem chgsAt_len (t : Bytes) (i n : Nat) : (chgsAt t i n).length = n := by simp [chgsAt]
theorem chgsAt_next (t : Bytes) (i n : Nat) : chgsAt t i (n + 1) = chgsAt t i n ++ [chgAt t (i + 5 * n)] := by simp [chgsAt, List.range_succ]
theorem chgsAt_cons (t : Bytes) (i n : Nat) : chgsAt t i (n + 1) = chgAt t i :: chgsAt t (i + 5) n := by
  rw [chgsAt, List.range_succ_eq_map, List.map_cons, List.map_map]
  congr 1
  apply List.map_congr_left
  intro j _
  show chgAt t (i + 5 * (j + 1)) = chgAt t (i + 5 + 5 * j)
  congr 1
  omega
theorem repG_at (t : Bytes) : ∀ (n i : Nat), i ≤ t.length → repG chgG n (t.drop i) = if i + 5 * n ≤ t.length then some (chgsAt t i n, t.drop (i + 5 * n)) else none
  | 0, i, h => by rw [if_pos (by omega)]; rfl
  | n + 1, i, h => by
    rw [repG, chgG_at]
    by_cases h0 : i + 5 ≤ t.length
    · rw [if_pos h0]
      simp only [Option.bind_some]
      rw [repG_at t n (i + 5) h0, chgsAt_cons]
      by_cases h1 : i + 5 + 5 * n ≤ t.length
      · rw [if_pos h1, if_pos (by omega), show i + 5 * (n + 1) = i + 5 + 5 * n by omega]; rfl
      · rw [if_neg h1, if_neg (by omega)]; rfl
    · rw [if_neg h0, if_neg (by omega)]; rfl
theorem takeG_at (t : Bytes) (m i : Nat) (h : i ≤ t.length) : takeG m (t.drop i) = if i + m ≤ t.length then some ((t.drop i).take m, t.drop (i + m)) else none := by
  rw [takeG, List.length_drop, List.drop_drop]
  by_cases h0 : i + m ≤ t.length
  · rw [if_pos h0, if_pos (by omega)]
  · rw [if_neg h0, if_neg (by omega)]
theorem textG_at (t : Bytes) (i : Nat) : textG (t.drop i) = if i < t.length ∧ i + 1 + bAt t i ≤ t.length then some (bl ((t.drop (i + 1)).take (bAt t i)), t.drop (i + 1 + bAt t i)) else none := by
  rw [textG, num1_at]
  by_cases h0 : i < t.length
  · rw [if_pos h0]
    simp only [Option.bind_some, Int.toNat_natCast]
    rw [takeG_at t _ _ (by omega)]
    by_cases h1 : i + 1 + bAt t i ≤ t.length
    · rw [if_pos h1, if_pos ⟨h0, h1⟩]; rfl
    · rw [if_neg h1, if_neg (by omega)]; rfl
  · rw [if_neg h0, if_neg (by omega)]; rfl
/-- Where an act's parts end. -/
def oneA (t : Bytes) : Nat := 2 + bAt t 1
def twoA (t : Bytes) : Nat := oneA t + 1 + bAt t (oneA t)
def endA (t : Bytes) : Nat := twoA t + 1 + 5 * bAt t (twoA t)
/-- The act that a text begins with, and how many bytes it has; 0: there is none. -/
def actF (t : Bytes) : Act × Nat := match actG t with
  | some (x, s) => (x, t.length - s.length)
  | none => ((0, ⟨#[]⟩, ⟨#[]⟩, []), 0)
theorem actG_at (t : Bytes) : actG t = if 4 ≤ t.length ∧ oneA t < t.length ∧ twoA t < t.length ∧ endA t ≤ t.length then
    some (((bAt t 0 : Int), bl ((t.drop 2).take (bAt t 1)), bl ((t.drop (oneA t + 1)).take (bAt t (oneA t))), chgsAt t (twoA t + 1) (bAt t (twoA t))), t.drop (endA t)) else none := by
  have hA : oneA t = 2 + bAt t 1 := rfl
  have hB : twoA t = oneA t + 1 + bAt t (oneA t) := rfl
  have hC : endA t = twoA t + 1 + 5 * bAt t (twoA t) := rfl
  have e0 := num1_at t 0
  rw [List.drop_zero] at e0
  rw [actG, e0]
  by_cases h0 : 0 < t.length
  · rw [if_pos h0]
    simp only [Option.bind_some]
    rw [textG_at]
    by_cases h1 : 0 + 1 < t.length ∧ 0 + 1 + 1 + bAt t (0 + 1) ≤ t.length
    · rw [if_pos h1]
      simp only [Option.bind_some]
      rw [show 0 + 1 + 1 + bAt t (0 + 1) = oneA t from rfl, textG_at]
      simp only [Nat.zero_add] at h1
      by_cases h2 : oneA t < t.length ∧ oneA t + 1 + bAt t (oneA t) ≤ t.length
      · rw [if_pos h2]
        simp only [Option.bind_some]
        rw [← hB, listG, num1_at]
        by_cases h3 : twoA t < t.length
        · rw [if_pos h3]
          simp only [Option.bind_some, Int.toNat_natCast]
          rw [repG_at t _ _ (by omega), ← hC]
          by_cases h4 : endA t ≤ t.length
          · rw [if_pos h4, if_pos ⟨by omega, h2.1, h3, h4⟩]; rfl
          · rw [if_neg h4, if_neg (by omega)]; rfl
        · rw [if_neg h3, if_neg (by omega)]; rfl
      · rw [if_neg h2, if_neg (by omega)]; rfl
    · rw [if_neg h1, if_neg (by simp only [Nat.zero_add] at h1; omega)]; rfl
  · rw [if_neg h0, if_neg (by omega)]; rfl
def noAct : Act := (0, ⟨#[]⟩, ⟨#[]⟩, [])
theorem actF_no {t : Bytes} (h : ¬ (4 ≤ t.length ∧ oneA t < t.length ∧ twoA t < t.length ∧ endA t ≤ t.length)) : actF t = (noAct, 0) := by
  rw [actF, actG_at, if_neg h]; rfl
theorem actF_ok {t : Bytes} (h0 : 4 ≤ t.length) (h1 : oneA t < t.length) (h2 : twoA t < t.length) (h3 : endA t ≤ t.length) :
    actF t = (((bAt t 0 : Int), bl ((t.drop 2).take (bAt t 1)), bl ((t.drop (oneA t + 1)).take (bAt t (oneA t))), chgsAt t (twoA t + 1) (bAt t (twoA t))), endA t) := by
  rw [actF, actG_at, if_pos ⟨h0, h1, h2, h3⟩]
  simp only [List.length_drop]
  congr 1
  omega
theorem actG_of {t : Bytes} (h : (actF t).2 = 0) : actG t = none := by
  cases hc : actG t with
  | none => rfl
  | some x =>
    obtain ⟨x, s⟩ := x
    have := (ext_act _ _ _ hc).2
    rw [actF, hc] at h
    simp only at h
    omega
theorem actG_some {t : Bytes} (h : (actF t).2 ≠ 0) : actG t = some ((actF t).1, t.drop (actF t).2) ∧ (actF t).2 ≤ t.length := by
  rw [actF, actG_at] at *
  by_cases hc : 4 ≤ t.length ∧ oneA t < t.length ∧ twoA t < t.length ∧ endA t ≤ t.length
  · rw [if_pos hc] at *
    simp only [List.length_drop] at *
    refine ⟨?_, by omega⟩
    rw [show t.length - (t.length - endA t) = endA t by omega]
  · rw [if_neg hc] at h
    exact absurd rfl h

end Go.Pch
end

section
namespace Go.Pch
open Go.RowKit Go.Proofs

def nMain : ByteArray := ByteArray.mk #[109, 97, 105, 110]
def nB : ByteArray := ByteArray.mk #[98]
def actOne : Act := (1, nMain, ⟨#[]⟩, [(3, -1, 700)])
def actTwo : Act := (2, nB, nMain, [])
def actBig : Act := (256, ⟨#[]⟩, ⟨#[]⟩, [])
def bsOne : Bytes := actBy actOne
def bsTwo : Bytes := actBy actTwo
theorem wpOne : actWP actOne = (bsOne, 0) := by rw [actWP, if_neg (by decide +kernel)]; rfl
theorem wpTwo : actWP actTwo = (bsTwo, 0) := by rw [actWP, if_neg (by decide +kernel)]; rfl
theorem wpBig : actWP actBig = ([], 3) := by rw [actWP, if_pos (by decide +kernel)]
theorem lenOne : bsOne.length = 13 := by decide +kernel
theorem lenTwo : bsTwo.length = 9 := by decide +kernel
theorem badOne : actBad actOne = false := by decide +kernel
theorem badTwo : actBad actTwo = false := by decide +kernel
theorem rpBegun : replayP (bsOne ++ bsTwo ++ [1]) = ([actOne, actTwo], 22, 0) := by
  have h := replay_acts [actOne, actTwo] 60 [1] (fun x hx => by
    simp only [List.mem_cons, List.not_mem_nil, or_false] at hx
    rcases hx with rfl | rfl
    · exact badOne
    · exact badTwo) (by decide)
  have e : [actOne, actTwo].flatMap actBy ++ [1] = bsOne ++ bsTwo ++ [1] := by simp [bsOne, bsTwo]
  have e2 : replayF (60 - [actOne, actTwo].length) [1] = ([], [1]) := rfl
  rw [e, e2] at h
  have hl : (bsOne ++ bsTwo ++ [1]).length = 23 := by rw [List.length_append, List.length_append, lenOne, lenTwo]; rfl
  rw [replayP, if_neg (by rw [hl]; decide), h, hl]
  rfl
theorem rcBegun : ∃ r, recP (bsOne ++ bsTwo) = (r, 2, 0) ∧ r.1.length = 2 ∧ r.2.length = 2 := by
  have h : (recP (bsOne ++ bsTwo)).2 = (2, 0) ∧ (recP (bsOne ++ bsTwo)).1.1.length = 2 ∧ (recP (bsOne ++ bsTwo)).1.2.length = 2 := by decide +kernel
  exact ⟨_, by rw [← h.1], h.2⟩
theorem doNone (r : Repo) : doP r (0, ⟨#[]⟩, ⟨#[]⟩, []) = (noRepo, 8) := rfl

end Go.Pch
end

section
namespace Go.Pch
open Go.RowKit Go.Proofs
set_option maxRecDepth 100000

theorem bl_app (a b : Bytes) : bl a ++ bl b = bl (a ++ b) := by
  apply ByteArray.ext
  simp [bl, ByteArray.data_append]

set_option maxHeartbeats 2000000 in
theorem logBegun (w : World) : Calls Try.prog 27 #[] w (Ret w fun r _ => r = .bool true) := by
  have lo := lenOne
  have lt := lenTwo
  obtain ⟨wl, hwl⟩ : ∃ wl, wl = w.alloc (.cells #[.int .i64 3, .int .i64 (-1), .int .i64 700] 76) := ⟨_, rfl⟩
  have bl1 : Below w.heap.size w wl := by rw [hwl]; exact (Below.refl _ _).alloc (Nat.le_refl _) _
  have sl1 : Sl tChange wl (fun k => w.heap.size ≤ k) (.slice (some ⟨w.heap.size, 0, none⟩) 1 1) [(3, -1, 700)] := by rw [hwl]; exact oneChg w 3 (-1) 700 (ok_small (by decide)) (by unfold i64ok; omega) (ok_small (by decide))
  have HWL := keepBack hwl
  clear hwl
  go_enter Try.func27, Try.ntmps27
  go_wp2_with fail
  rw [← HWL.out]
  have T := logWrite _ actOne _ wl ⟨_, rfl, sl1⟩ (ok_small (by decide)) (by decide) (by decide) (by decide)
  rw [wpOne] at T
  refine T.mono ?_; rintro e p1 ⟨_, rfl, rfl, b1⟩
  clear T
  have low1 := bl1.trans (b1.mono bl1.size)
  have z1 := low1.size
  go_wp2_with fail
  have T := logWrite _ actTwo (fun _ => True) p1 ⟨_, rfl, Sl.nil _ _ _⟩ (ok_small (by decide)) (by decide) (by decide) (by decide)
  rw [wpTwo] at T
  refine T.mono ?_; rintro e p2 ⟨_, rfl, rfl, b2⟩
  clear T
  have low2 := low1.trans (b2.mono z1)
  have z2 := low2.size
  go_wp2_with fail
  rw [show bl bsOne ++ bl bsTwo ++ { data := #[1] } = bl (bsOne ++ bsTwo ++ [1]) by rw [← bl_app, ← bl_app]; rfl]
  have T := logReplay (bsOne ++ bsTwo ++ [1]) p2 (by rw [List.length_append, List.length_append, lo, lt]; decide)
  rw [rpBegun] at T
  refine T.mono ?_; rintro e p3 ⟨_, rfl, ⟨v3, rfl, h3⟩, b3⟩
  clear T
  have low3 := low2.trans (b3.mono z2)
  have z3 := low3.size
  obtain ⟨a3, c3, rfl, _, _, _⟩ := h3.shapeAt 2 rfl
  go_wp2_with fail
  rw [show bl bsOne ++ bl bsTwo = bl (bsOne ++ bsTwo) from bl_app _ _]
  obtain ⟨r, hr, hr1, hr2⟩ := rcBegun
  have T := logRecover (bsOne ++ bsTwo) p3 (by rw [List.length_append, lo, lt]; decide)
  rw [hr] at T
  clear hr
  refine T.mono ?_; rintro e p4 ⟨_, rfl, ⟨v4, rfl, h4⟩, b4⟩
  clear T
  have low4 := low3.trans (b4.mono z3)
  have z4 := low4.size
  have h3_4 := h3.call b4
  obtain ⟨vc, vh, rfl, hc, hh⟩ := h4
  obtain ⟨ac, cc, hvc, _, _, _⟩ := hc.shape
  obtain ⟨ah, ch, hvh, _, _, _⟩ := hh.shape
  simp only at hvc hvh
  rw [hr1] at hvc
  rw [hr2] at hvh
  subst hvc hvh
  clear hr1 hr2 h3 hc hh
  have eB := heap_alloc_new p4 (.cells #[.slice ac 2 cc, .slice ah 2 ch] 25)
  have bB := (Below.refl p4.heap.size p4).alloc (Nat.le_refl _) (.cells #[.slice ac 2 cc, .slice ah 2 ch] 25)
  obtain ⟨wb, hwb⟩ : ∃ wb, wb = p4.alloc (.cells #[.slice ac 2 cc, .slice ah 2 ch] 25) := ⟨_, rfl⟩
  rw [← hwb] at eB bB
  have HWB := keepBack hwb
  clear hwb
  have lowB := low4.trans (bB.mono z4)
  have zB := lowB.size
  have h3_B := h3_4.call bB
  clear h3_4
  go_wp2_with fail
  rw [← HWB.out]
  have T := logWrite _ actBig (fun _ => True) wb ⟨_, rfl, Sl.nil _ _ _⟩ (ok_small (by decide)) (by decide) (by decide) (by decide)
  rw [wpBig] at T
  refine T.mono ?_; rintro e p5 ⟨_, rfl, rfl, b5⟩
  clear T
  have low5 := lowB.trans (b5.mono zB)
  have z5 := low5.size
  go_wp2_with fail
  refine (shopAt _).mono ?_; rintro e s6 ⟨_, rfl, ⟨a6, c6, g6, rfl, h6⟩, b6⟩
  have low6 := low5.trans (b6.mono z5)
  have z6 := low6.size
  go_wp2_with fail
  refine (logDo _ _ shopR (0, ⟨#[]⟩, ⟨#[]⟩, []) _ (fun _ => True) s6 (h6.rp (by decide) (by decide)) ⟨_, rfl, Sl.nil _ _ _⟩).mono ?_; rintro e p7 ⟨_, rfl, hret, b7⟩
  rw [doNone] at hret
  obtain ⟨y7, rfl, vc7, vh7, rfl, hc7, hh7⟩ := hret
  obtain ⟨ac7, cc7, rfl, _, _, _⟩ := hc7.shapeAt 0 rfl
  obtain ⟨ah7, ch7, rfl, _, _, _⟩ := hh7.shapeAt 0 rfl
  have low7 := low6.trans (b7.mono z6)
  have z7 := low7.size
  have b57 := b5.trans ((b6.trans (b7.mono b6.size)).mono b5.size)
  have bE := (Below.refl p7.heap.size p7).alloc (Nat.le_refl _) (.cells #[.slice ac7 0 cc7, .slice ah7 0 ch7] 25)
  have bBE := b57.trans (bE.mono b57.size)
  have eE := (bBE.block p4.heap.size (by rw [HWB.out]; simp)).trans eB
  have hE := h3_B.call bBE
  have x0 : (p7.alloc (.cells #[.slice ac7 0 cc7, .slice ah7 0 ch7] 25)).cell? ⟨p4.heap.size, 0, none⟩ = some (.slice ac 2 cc) := by rw [World.cell?, eE]; rfl
  have x1 : (p7.alloc (.cells #[.slice ac7 0 cc7, .slice ah7 0 ch7] 25)).cell? ⟨p4.heap.size, 1, none⟩ = some (.slice ah 2 ch) := by rw [World.cell?, eE]; rfl
  obtain ⟨b, o, ad, cd, hix, _, hbs, _, _, _, hd, hcd, hcm, q0, q1, q2, q3⟩ := hE.idxAct aAct 0 0 actOne rfl rfl
  simp only [actOne, List.length_singleton] at hd hcd hcm q0 q1 q2 q3
  obtain ⟨bb, oo, hixx, _, hbb, _, _, _, w0, w1, w2⟩ := hd.idxChgAt aChg 0 0 (3, -1, 700) rfl rfl
  have hq := chgEqual (3, -1, 700) (3, -1, 700) (p7.alloc (.cells #[.slice ac7 0 cc7, .slice ah7 0 ch7] 25))
  have hg := chgGuard
  simp only [decide_true] at hq
  have so := bl_size bsOne
  have st := bl_size bsTwo
  rw [lo] at so
  rw [lt] at st
  clear lo lt
  go_wp2
  go_ret
  exact ⟨_, rfl, rfl, low7.trans (bE.mono z7)⟩

end Go.Pch
end

section
namespace Go.Pch
open Go.RowKit Go.ChangeShapes Go.WideShapes

/-- Whatever reads as data of type t reads as E says. -/
def Opens (P : Program) {α : Type} (E : Ty α) (t : TypeId) : Prop :=
  ∀ (H : Type) (enc : TypeId × Value → H) (w : World) (base : Nat) (spare : Nat → Bool) (held : Bool) (fuel : Nat) (cs : List Value) (x : DataW H × List MemPlace),
    DataW.trod enc P w base spare held fuel t cs = some x → ∃ a, E.rd w (fun _ => True) cs a

theorem i64ok_of_wf {n : Int} (h : (Lit.int .i64 n).wf = true) : i64ok n := by
  simp only [Lit.wf, IntKind.min, IntKind.max, IntKind.signed, IntKind.bits, Bool.and_eq_true, decide_eq_true_eq, if_true] at h
  unfold i64ok
  omega

theorem Opens.int {P : Program} {t : TypeId} (ht : P.underlying t = some (.int .i64)) : Opens P tInt t := by
  intro H enc w base spare held fuel cs x h
  obtain ⟨n, rfl, _, hw⟩ := DataW.trod_int ht h
  exact ⟨n, rfl, i64ok_of_wf hw⟩

theorem Opens.row {P : Program} {t : TypeId} {f0 f1 : Field} (ht : P.underlying t = some (.struct #[f0, f1])) (hc : P.cellsOf t = 2) (o0 : f0.offset = 0) (o1 : f1.offset = 1) (c0 : P.cellsOf f0.type = 1) (c1 : P.cellsOf f1.type = 1)
    (t0 : P.underlying f0.type = some (.int .i64)) (t1 : P.underlying f1.type = some (.int .i64)) : Opens P tRow t := by
  intro H enc w base spare held fuel cs x h
  obtain ⟨y0, y1, n, _, hl, h0, h1⟩ := trod_struct2 ht h
  rw [hc] at hl
  match cs, hl with
  | [a, b], _ =>
    simp only [o0, o1, c0, c1, List.drop_zero, List.take_succ_cons, List.take_zero, List.drop_succ_cons] at h0 h1
    obtain ⟨p, e0, _, w0⟩ := DataW.trod_int t0 h0
    obtain ⟨q, e1, _, w1⟩ := DataW.trod_int t1 h1
    simp at e0 e1
    subst e0 e1
    exact ⟨(p, q), rfl, i64ok_of_wf w0, i64ok_of_wf w1⟩

theorem Opens.slice {P : Program} {α : Type} {E : Ty α} {t e : TypeId} (hE : Opens P E e) (ht : P.underlying t = some (.slice e)) (hc : P.cellsOf e = E.size) : Opens P E.slice t := by
  intro H enc w base spare held fuel cs x h
  rcases Deep.open_slice ht h with ⟨rfl, _⟩ | ⟨a, len, cap, m, n, D, Pl, rfl, hb, hl, hm, hmm, rfl, hx⟩
  · exact ⟨[], Sl.nil E w _⟩
  · have hlm : len ≤ m := by rw [hmm]; split <;> omega
    have each : ∀ i, i < len → ∃ q : List Value × α, E.rd w (fun _ => True) q.1 q.2 ∧ ∀ j u, q.1[j]? = some u → w.cell? (a.add (i * E.size + j)) = some u := by
      intro i hi
      obtain ⟨cs', h1, h2⟩ := hx i (by omega)
      rw [hc] at h1
      obtain ⟨_, hlen, hcell⟩ := World.cells?_some h1
      obtain ⟨b, hrd⟩ := hE H enc w base spare held n cs' _ h2
      refine ⟨(cs', b), hrd, fun j u hj => ?_⟩
      obtain ⟨hjl, rfl⟩ := List.getElem?_eq_some_iff.1 hj
      have hjl' : j < cs'.length := hjl
      have := hcell j (by omega)
      rw [Deep.add_add] at this
      rw [this]
      simp [hjl]
    by_cases h0 : len = 0
    · subst h0
      exact ⟨[], some a, 0, cap, rfl, rfl, Nat.zero_le _, hm, by simp, by simp⟩
    · obtain ⟨q0, hr0, hc0⟩ := each 0 (by omega)
      have hne : ∃ u, q0.1[0]? = some u := by
        have := E.len hr0; have := E.pos
        exact ⟨q0.1[0], List.getElem?_eq_getElem (by omega)⟩
      obtain ⟨u0, hu0⟩ := hne
      have hcell0 := hc0 0 u0 hu0
      obtain ⟨b, o, spot⟩ := a
      have hspot : spot = none := by simpa [Addr.add] using World.cell?_spot hcell0
      subst hspot
      have each' : ∀ i (x : Unit), (List.replicate len ())[i]? = some x → ∃ q : List Value × α, E.rd w (fun _ => True) q.1 q.2 ∧ ∀ j u, q.1[j]? = some u → w.cell? ⟨b, o + i * E.size + j, none⟩ = some u := by
        intro i x hi
        have hlt : i < len := by simpa using (List.getElem?_eq_some_iff.1 hi).1
        obtain ⟨q, h1, h2⟩ := each i hlt
        exact ⟨q, h1, fun j u hj => by have := h2 j u hj; rwa [Addr.add_lit, ← Nat.add_assoc] at this⟩
      obtain ⟨qs, hql, hq⟩ := exists_list (List.replicate len ()) each'
      rw [List.length_replicate] at hql
      refine ⟨qs.map (·.2), some ⟨b, o, none⟩, len, cap, rfl, by simp [hql], hl, hm, by simp, fun i x hi => ⟨b, o, rfl, trivial, ?_⟩⟩
      rw [List.getElem?_map] at hi
      obtain ⟨q, hqi, rfl⟩ := Option.map_eq_some_iff.1 hi
      have hlt : i < len := by have := (List.getElem?_eq_some_iff.1 hqi).1; omega
      have := hq i q () hqi (by simp [hlt])
      exact ⟨q.1, this.1, this.2⟩

end Go.Pch
end

section
namespace Go.Pch
open Go.RowKit Go.Proofs

theorem agg_of_two {v a b : Value} (h : v.cells.toList = [a, b]) : v = .agg #[a, b] := by
  cases v with
  | agg cs => simp only [Value.cells] at h; rw [← h]
  | _ => simp [Value.cells] at h

theorem fieldsRow : ∃ f0 f1 : Field, Try.prog.underlying 88 = some (.struct #[f0, f1]) ∧ f0.offset = 0 ∧ f1.offset = 1 ∧ f0.type = 3 ∧ f1.type = 3 := by
  obtain ⟨f, g, h1, h2, h3⟩ := two_of_map rowFields
  simp only [Prod.mk.injEq] at h2 h3
  have e : Try.prog.fieldsOf 88 = #[f, g] := by rw [← Array.toList_inj, h1]
  exact ⟨f, g, by rw [rowStruct, e], h2.2.1, h3.2.1, h2.1, h3.1⟩
theorem opInt : Opens Try.prog tInt 3 := Opens.int Try.underlying3
theorem opRow : Opens Try.prog tRow 88 := by
  obtain ⟨f0, f1, h, o0, o1, t0, t1⟩ := fieldsRow
  exact Opens.row h (by kernel_rfl) o0 o1 (by rw [t0]; kernel_rfl) (by rw [t1]; kernel_rfl) (by rw [t0]; exact Try.underlying3) (by rw [t1]; exact Try.underlying3)
theorem opRows : Opens Try.prog tRow.slice 41 := opRow.slice Try.underlying41 (by kernel_rfl)
theorem opLevel : Opens Try.prog tRow.slice.slice 131 := opRows.slice Try.underlying131 (by kernel_rfl)

end Go.Pch
end

section
namespace Go.Pch
open Go.RowKit Go.ChangeShapes Go.WideShapes Go.Proofs
open Go.Proofs.Ytdclpbdmdpakkaa.Rows (uptoBulk uptoBulkAll uptoSmall)

theorem bulk_one {H : Type} (d : DataW H) : 1 ≤ uptoBulk d := by
  cases d with
  | lit l => cases l <;> simp [uptoBulk]
  | nil => simp [uptoBulk]
  | ptr d => simp [uptoBulk]
  | slice elems spare => simp [uptoBulk]
  | agg parts => simp [uptoBulk]
  | iface t d => simp [uptoBulk]
  | map entries => simp [uptoBulk]
  | held h => simp [uptoBulk]
theorem bulk_part {H : Type} {d : DataW H} {l : List (DataW H)} (h : d ∈ l) : uptoBulk d ≤ uptoBulkAll l := by
  induction l with
  | nil => cases h
  | cons x r ih =>
    simp only [uptoBulkAll]
    cases List.mem_cons.1 h with
    | inl e => subst e; omega
    | inr e => have := ih e; omega
theorem bulk_bound {H : Type} {l : List (DataW H)} (hk : uptoSmall H l = true) : uptoBulkAll l ≤ 1048576 := of_decide_eq_true hk

/-- Whatever reads as data of type t reads as E says, and is of no more than its bulk. -/
def OpensM (P : Program) {α : Type} (E : Ty α) (m : α → Nat) (t : TypeId) : Prop :=
  ∀ (H : Type) (enc : TypeId × Value → H) (w : World) (base : Nat) (spare : Nat → Bool) (held : Bool) (fuel : Nat) (cs : List Value) (x : DataW H × List MemPlace),
    DataW.trod enc P w base spare held fuel t cs = some x → ∃ a, E.rd w (fun _ => True) cs a ∧ m a ≤ uptoBulk x.1

/-- How much a list's elements are. -/
def sumM {α : Type} (m : α → Nat) (l : List α) : Nat := (l.map m).sum

theorem Opens.one {P : Program} {α : Type} {E : Ty α} {t : TypeId} (h : Opens P E t) : OpensM P E (fun _ => 1) t := by
  intro H enc w base spare held fuel cs x hx
  obtain ⟨a, ha⟩ := h H enc w base spare held fuel cs x hx
  exact ⟨a, ha, bulk_one _⟩

theorem sum_le {α : Type} {H : Type} {m : α → Nat} {D : Nat → DataW H} : ∀ (l : List α) (k : Nat), (∀ (i : Nat) a, l[i]? = some a → m a ≤ uptoBulk (D (k + i))) → sumM m l ≤ uptoBulkAll ((List.range' k l.length).map D)
  | [], k, _ => by simp [sumM]
  | a :: l, k, h => by
    have h0 := h 0 a rfl
    have ih := sum_le l (k + 1) fun i b hb => by have := h (i + 1) b (by simpa using hb); rwa [show k + (i + 1) = k + 1 + i by omega] at this
    simp only [List.length_cons, List.range'_succ, List.map_cons, uptoBulkAll]
    simp only [sumM, List.map_cons, List.sum_cons, Nat.add_zero] at *
    omega

theorem OpensM.slice {P : Program} {α : Type} {E : Ty α} {m : α → Nat} {t e : TypeId} (hE : OpensM P E m e) (ht : P.underlying t = some (.slice e)) (hc : P.cellsOf e = E.size) : OpensM P E.slice (sumM m) t := by
  intro H enc w base spare held fuel cs x h
  rcases Deep.open_slice ht h with ⟨rfl, _⟩ | ⟨a, len, cap, mm, n, D, Pl, rfl, hb, hl, hm, hmm, rfl, hx⟩
  · exact ⟨[], Sl.nil E w _, by simp [sumM]⟩
  · have hlm : len ≤ mm := by rw [hmm]; split <;> omega
    have each : ∀ i, i < len → ∃ q : List Value × α, (E.rd w (fun _ => True) q.1 q.2 ∧ m q.2 ≤ uptoBulk (D i)) ∧ ∀ j u, q.1[j]? = some u → w.cell? (a.add (i * E.size + j)) = some u := by
      intro i hi
      obtain ⟨cs', h1, h2⟩ := hx i (by omega)
      rw [hc] at h1
      obtain ⟨_, hlen, hcell⟩ := World.cells?_some h1
      obtain ⟨b, hrd, hbm⟩ := hE H enc w base spare held n cs' _ h2
      refine ⟨(cs', b), ⟨hrd, hbm⟩, fun j u hj => ?_⟩
      obtain ⟨hjl, rfl⟩ := List.getElem?_eq_some_iff.1 hj
      have hjl' : j < cs'.length := hjl
      have := hcell j (by omega)
      rw [Deep.add_add] at this
      rw [this]
      simp [hjl]
    by_cases h0 : len = 0
    · subst h0
      exact ⟨[], ⟨some a, 0, cap, rfl, rfl, Nat.zero_le _, hm, by simp, by simp⟩, by simp [sumM]⟩
    · obtain ⟨q0, ⟨hr0, _⟩, hc0⟩ := each 0 (by omega)
      have hne : ∃ u, q0.1[0]? = some u := by
        have := E.len hr0; have := E.pos
        exact ⟨q0.1[0], List.getElem?_eq_getElem (by omega)⟩
      obtain ⟨u0, hu0⟩ := hne
      have hcell0 := hc0 0 u0 hu0
      obtain ⟨b, o, spot⟩ := a
      have hspot : spot = none := by simpa [Addr.add] using World.cell?_spot hcell0
      subst hspot
      have each' : ∀ i (x : Unit), (List.replicate len ())[i]? = some x → ∃ q : List Value × α, (E.rd w (fun _ => True) q.1 q.2 ∧ m q.2 ≤ uptoBulk (D i)) ∧ ∀ j u, q.1[j]? = some u → w.cell? ⟨b, o + i * E.size + j, none⟩ = some u := by
        intro i x hi
        have hlt : i < len := by simpa using (List.getElem?_eq_some_iff.1 hi).1
        obtain ⟨q, h1, h2⟩ := each i hlt
        exact ⟨q, h1, fun j u hj => by have := h2 j u hj; rwa [Addr.add_lit, ← Nat.add_assoc] at this⟩
      obtain ⟨qs, hql, hq⟩ := exists_list (List.replicate len ()) each'
      rw [List.length_replicate] at hql
      have hget : ∀ (i : Nat) q, qs[i]? = some q → (E.rd w (fun _ => True) q.1 q.2 ∧ m q.2 ≤ uptoBulk (D i)) ∧ ∀ j u, q.1[j]? = some u → w.cell? ⟨b, o + i * E.size + j, none⟩ = some u := fun i q hqi => by
        have hlt : i < len := by have := (List.getElem?_eq_some_iff.1 hqi).1; omega
        exact hq i q () hqi (by simp [hlt])
      refine ⟨qs.map (·.2), ⟨some ⟨b, o, none⟩, len, cap, rfl, by simp [hql], hl, hm, by simp, fun i x hi => ⟨b, o, rfl, trivial, ?_⟩⟩, ?_⟩
      · rw [List.getElem?_map] at hi
        obtain ⟨q, hqi, rfl⟩ := Option.map_eq_some_iff.1 hi
        exact ⟨q.1, (hget i q hqi).1.1, (hget i q hqi).2⟩
      · have hs := sum_le (m := m) (D := D) (qs.map (·.2)) 0 fun i a ha => by
          rw [List.getElem?_map] at ha
          obtain ⟨q, hqi, rfl⟩ := Option.map_eq_some_iff.1 ha
          rw [Nat.zero_add]
          exact (hget i q hqi).1.2
        rw [List.length_map, hql, ← List.range_eq_range'] at hs
        simp only [uptoBulk]
        omega

/-- How many rows a tree has. -/
def treeM (t : List (List (List Row))) : Nat := sumM (sumM (sumM fun _ => 1)) t

theorem sumM_len {α : Type} (l : List α) : sumM (fun _ => 1) l = l.length := by
  induction l with
  | nil => rfl
  | cons x l ih => simp only [sumM, List.map_cons, List.sum_cons, List.length_cons] at *; omega
theorem sumM_flat {α : Type} (l : List (List α)) : sumM (sumM fun _ => 1) l = l.flatten.length := by
  induction l with
  | nil => rfl
  | cons x l ih =>
    rw [List.flatten_cons, List.length_append, ← ih, sumM, List.map_cons, List.sum_cons, sumM_len]; rfl

theorem flat_le (t : List (List (List (Int × Int)))) : (t.headD []).flatten.length ≤ treeM t := by
  cases t with
  | nil => simp
  | cons x t =>
    have h1 := sumM_flat x
    have h2 : treeM (x :: t) = sumM (sumM fun _ => 1) x + sumM (sumM (sumM fun _ => 1)) t := by rw [treeM, sumM, List.map_cons, List.sum_cons]; rfl
    rw [List.headD_cons]
    omega
theorem flat_small {H : Type} {t : List (List (List (Int × Int)))} {d : DataW H} {l : List (DataW H)} (hk : uptoSmall H l = true) (hd : d ∈ l) (hm : treeM t ≤ uptoBulk d) : (t.headD []).flatten.length ≤ 1048576 :=
  Nat.le_trans (flat_le t) (Nat.le_trans hm (Nat.le_trans (bulk_part hd) (bulk_bound hk)))

end Go.Pch
end

section
namespace Go.Pch
open Go.RowKit Go.Proofs Go.ChangeShapes Go.WideShapes

theorem Opens.triple {P : Program} {t : TypeId} {f0 f1 f2 : Field} (ht : P.underlying t = some (.struct #[f0, f1, f2])) (hc : P.cellsOf t = 3) (o0 : f0.offset = 0) (o1 : f1.offset = 1) (o2 : f2.offset = 2) (c0 : P.cellsOf f0.type = 1) (c1 : P.cellsOf f1.type = 1) (c2 : P.cellsOf f2.type = 1)
    (t0 : P.underlying f0.type = some (.int .i64)) (t1 : P.underlying f1.type = some (.int .i64)) (t2 : P.underlying f2.type = some (.int .i64)) : Opens P tChange t := by
  intro H enc w base spare held fuel cs x h
  obtain ⟨xs, n, _, rfl, hl, hlen, hf⟩ := DataW.trod_struct ht h
  match xs, hlen with
  | [y0, y1, y2], _ =>
    have h0 := hf 0 f0 rfl
    have h1 := hf 1 f1 rfl
    have h2 := hf 2 f2 rfl
    rw [hc] at hl
    match cs, hl with
    | [a, b, c], _ =>
      simp only [o0, o1, o2, c0, c1, c2, List.drop_zero, List.take_succ_cons, List.take_zero, List.drop_succ_cons] at h0 h1 h2
      obtain ⟨p, e0, _, w0⟩ := DataW.trod_int t0 h0
      obtain ⟨q, e1, _, w1⟩ := DataW.trod_int t1 h1
      obtain ⟨r, e2, _, w2⟩ := DataW.trod_int t2 h2
      simp at e0 e1 e2
      subst e0 e1 e2
      exact ⟨(p, q, r), rfl, i64ok_of_wf w0, i64ok_of_wf w1, i64ok_of_wf w2⟩
theorem fieldsChg : ∃ f0 f1 f2 : Field, Try.prog.underlying 76 = some (.struct #[f0, f1, f2]) ∧ f0.offset = 0 ∧ f1.offset = 1 ∧ f2.offset = 2 ∧ f0.type = 3 ∧ f1.type = 3 ∧ f2.type = 3 := by
  obtain ⟨f, g, k, h1, h2, h3, h4⟩ := three_of_map chgFields
  simp only [Prod.mk.injEq] at h2 h3 h4
  have e : Try.prog.fieldsOf 76 = #[f, g, k] := by rw [← Array.toList_inj, h1]
  exact ⟨f, g, k, by rw [chgStruct, e], h2.2.1, h3.2.1, h4.2.1, h2.1, h3.1, h4.1⟩
theorem opChange : Opens Try.prog tChange 76 := by
  obtain ⟨f0, f1, f2, h, o0, o1, o2, t0, t1, t2⟩ := fieldsChg
  exact Opens.triple h (by kernel_rfl) o0 o1 o2 (by rw [t0]; kernel_rfl) (by rw [t1]; kernel_rfl) (by rw [t2]; kernel_rfl) (by rw [t0]; exact Try.underlying3) (by rw [t1]; exact Try.underlying3) (by rw [t2]; exact Try.underlying3)
theorem opChanges : Opens Try.prog tChange.slice 26 := opChange.slice Try.underlying26 (by kernel_rfl)

end Go.Pch
end
