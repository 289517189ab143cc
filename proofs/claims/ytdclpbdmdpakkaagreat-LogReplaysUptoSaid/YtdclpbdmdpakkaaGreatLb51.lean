/- The walk of the document's ActBytes. -/
import Derived.Test.YtdclpbdmdpakkaaGreatLb50
import Derived.Test.YtdclpbdmdpakkaaGreatLb10
import Derived.Test.YtdclpbdmdpakkaaGreatLb48
import Derived.Deep.Cut
section
namespace Go.Pch
open Go.RowKit Go.Proofs
set_option maxRecDepth 100000

theorem litFour (w : World) (a b c d : Int) (ha : i64ok a) (hb : i64ok b) (hc : i64ok c) (hd : i64ok d) (k : Nat) (hk : k = w.heap.size) : Sl tInt (w.alloc (.cells #[.int .i64 a, .int .i64 b, .int .i64 c, .int .i64 d] 3)) (fun k => w.heap.size ≤ k) (.slice (some ⟨k, 0, none⟩) 4 4) [a, b, c, d] := by
  subst hk
  exact (Own.lit (E := tInt) (e := 3) (B := w.heap.size) (C := fun _ => False) (xs := [[.int .i64 a], [.int .i64 b], [.int .i64 c], [.int .i64 d]]) ((((Each.one (E := tInt) [.int .i64 a] a ⟨rfl, ha⟩).app (Each.one (E := tInt) [.int .i64 b] b ⟨rfl, hb⟩)).app (Each.one (E := tInt) [.int .i64 c] c ⟨rfl, hc⟩)).app (Each.one (E := tInt) [.int .i64 d] d ⟨rfl, hd⟩)) rfl (by simp [maxLen]) (Nat.le_refl _)).sl (fun _ h => h.elim) (fun _ h => h)

theorem actWP_bad' {x : Act} (h : actBad x = true) : actWP x = ([], 3) := by rw [actWP, if_pos h]
theorem small_bad {k : Int} {a b : ByteArray} {d : List Change} {nd : Nat} {n : Int} (hn : nd = d.length) (hm : n ∈ ([k, (a.size : Int), (b.size : Int), (nd : Int)] : List Int)) (h : ¬ (0 ≤ n ∧ n ≤ 255)) : actWP (k, a, b, d) = ([], 3) := by
  have ho : outN 1 n = true := by
    rw [outN, Bool.or_eq_true, decide_eq_true_eq, decide_eq_true_eq, if_pos rfl]; omega
  refine actWP_bad' ?_
  rw [actBad]
  simp only [List.mem_cons, List.not_mem_nil, or_false] at hm
  rcases hm with rfl | rfl | rfl | rfl
  · simp [ho]
  · simp [ho]
  · simp [ho]
  · subst hn; simp [ho]

theorem chgBy_len (l : List Change) : (l.flatMap chgBy).length = 5 * l.length := by
  induction l with
  | nil => rfl
  | cons a l ih => rw [List.flatMap_cons, List.length_append, ih]; simp [chgBy, enc1, enc2]; omega

theorem wrapAdd1 (n : Int) (h : -1 ≤ n ∧ n ≤ 65534) : IntKind.i64.wrap (n + 1) = n + 1 := by rw [IntKind.wrap_i64]; omega
theorem chgBad_of {y : Change} (h : ¬ (0 ≤ y.1 ∧ y.1 ≤ 255) ∨ ¬ (-1 ≤ y.2.1 ∧ y.2.1 ≤ 65534) ∨ ¬ (-1 ≤ y.2.2 ∧ y.2.2 ≤ 65534)) : chgBad y = true := by
  rw [chgBad, outN, outN, outN]
  simp only [if_pos, show ¬ (2 : Nat) = 1 by decide, if_false, Bool.or_eq_true, decide_eq_true_eq]
  omega
theorem chg_bad {k : Int} {a b : ByteArray} {d : List Change} {y : Change} (hm : y ∈ d) (h : chgBad y = true) : actWP (k, a, b, d) = ([], 3) := by
  refine actWP_bad' ?_
  rw [actBad, Bool.or_eq_true]
  exact .inr (List.any_eq_true.2 ⟨y, hm, h⟩)
theorem acts_good {k : Int} {a b : ByteArray} {d : List Change} {nd : Nat} {BS : Bytes} (hn : nd = d.length) (hB : enc1 k ++ enc1 (a.size : Int) ++ a.data.toList ++ enc1 (b.size : Int) ++ b.data.toList ++ enc1 (nd : Int) = BS) (hk : 0 ≤ k ∧ k ≤ 255) (ha : 0 ≤ (a.size : Int) ∧ (a.size : Int) ≤ 255) (hb : 0 ≤ (b.size : Int) ∧ (b.size : Int) ≤ 255) (hd : 0 ≤ (nd : Int) ∧ (nd : Int) ≤ 255) (hg : ∀ x ∈ d, chgBad x = false) :
    actWP (k, a, b, d) = (BS ++ d.flatMap chgBy, 0) := by
  subst hn
  have o : ∀ n : Int, 0 ≤ n ∧ n ≤ 255 → outN 1 n = false := fun n h => by rw [outN, Bool.or_eq_false_iff, decide_eq_false_iff_not, decide_eq_false_iff_not, if_pos rfl]; omega
  have e : actBad (k, a, b, d) = false := by
    rw [actBad, o k hk, o _ ha, o _ hb, o _ hd]
    simp only [Bool.false_or]
    rw [List.any_eq_false]
    intro x hx
    rw [hg x hx]
    decide
  rw [actWP, e, ← hB, actBy]
  simp [List.append_assoc]

set_option maxHeartbeats 8000000 in
theorem refActBytes (u : Value) (x : Act) (S : Blk) (w : World) (g : AtAct w S u x) (hz : ActSmall x) : Calls Tryz.prog 17 #[u] w (Ret w fun y _ => y = .tuple #[.string (bl (actWP x).1), .int .i64 (actWP x).2]) := by
  obtain ⟨Z, hZ⟩ : ∃ Z, actWP x = Z := ⟨_, rfl⟩
  rw [hZ]
  have HZ := keepBack hZ
  clear hZ
  obtain ⟨k, a, b, d⟩ := x
  obtain ⟨vd, rfl, hd⟩ := g
  obtain ⟨ad, cd, hvd, hcd, hmd, _⟩ := hd.shape
  obtain ⟨hk, ha, hb, hl⟩ := hz
  simp only at hvd hcd hd hk ha hb hl
  unfold maxLen at hmd
  obtain ⟨nd, hnd⟩ : ∃ n, n = d.length := ⟨_, rfl⟩
  rw [← hnd] at hvd hl hcd
  have HND := keepBack hnd
  clear hnd
  subst hvd
  simp only
  obtain ⟨wA, hwA⟩ : ∃ wA, wA = w.alloc (.cells #[.int .i64 k, .string a, .string b, .slice ad nd cd] 36) := ⟨_, rfl⟩
  have bA : Below w.heap.size w wA := by rw [hwA]; exact (Below.refl _ _).alloc (Nat.le_refl _) _
  have X0 : ActBox wA w.heap.size k a b (.slice ad nd cd) := by rw [hwA]; exact ⟨heap_alloc_new _ _⟩
  have sA : wA.heap.size = w.heap.size + 1 := by rw [hwA]; simp
  have hL0 := litFour wA k a.size b.size nd hk (by unfold i64ok; omega) (by unfold i64ok; omega) (by unfold i64ok; omega) (w.heap.size + 1) sA.symm
  have bL0 := (Below.refl wA.heap.size wA).alloc (Nat.le_refl _) (.cells #[.int .i64 k, .int .i64 a.size, .int .i64 b.size, .int .i64 nd] 3)
  rw [hwA] at hL0 bL0
  have HWA := keepBack hwA
  clear hwA
  go_enter Tryz.func17, Tryz.ntmps17
  go_wp2_with fail
  rw [show w.heap.size + 1 = w.heap.size + 1 from rfl] at hL0
  obtain ⟨wB, hwB⟩ : ∃ wB, wB = (w.alloc (.cells #[.int .i64 k, .string a, .string b, .slice ad nd cd] 36)).alloc (.cells #[.int .i64 k, .int .i64 a.size, .int .i64 b.size, .int .i64 nd] 3) := ⟨_, rfl⟩
  rw [← hwB] at hL0 bL0
  have X1 : ActBox wB w.heap.size k a b (.slice ad nd cd) := X0.call (by rw [HWA.out]; exact bL0)
  have bB : Below w.heap.size w wB := bA.trans (by rw [HWA.out]; exact bL0.mono (by simp))
  rw [← hwB]
  clear hwB bL0
  have hdB := hd.call bB
  have zB := bB.size
  go_loop [5] (fun uk => ∃ j : Nat, j ≤ 4 ∧ uk = .int .i64 j ∧ ∀ n ∈ ([k, (a.size : Int), (b.size : Int), (nd : Int)] : List Int).take j, 0 ≤ n ∧ n ≤ 255) (fun uk => 4 - (intOf uk).toNat)
  case atStart => exact ⟨0, by omega, rfl, by simp⟩
  case round =>
    obtain ⟨j, hj, rfl, hin⟩ := hrel
    by_cases hlt : j < 4
    · have hjI : (j : Int) < 4 := by omega
      obtain ⟨n, hn⟩ : ∃ n, ([k, (a.size : Int), (b.size : Int), (nd : Int)] : List Int)[j]? = some n := ⟨_, List.getElem?_eq_getElem (by simpa using hlt)⟩
      obtain ⟨bb, oo, hix, _, hbb, hok, hc0⟩ := hL0.idxInt aInt j j rfl (by simpa using hlt)
      obtain ⟨_, hge⟩ := List.getElem_of_getElem? hn
      rw [hge] at hc0 hok
      clear hge
      have HN := keepBack hn
      clear hn
      by_cases hw : 0 ≤ n ∧ n ≤ 255
      · have T := refWithin_of n 0 255 wB (c := true) (by simp [hw.1, hw.2])
        go_wp2_with fail
        refine T.mono ?_; rintro e w1 ⟨rfl, rfl⟩
        clear T
        go_wp2_with fail
        go_round
        case rel =>
          refine ⟨j + 1, by omega, by go_num, fun q hq => ?_⟩
          rw [List.take_add_one, HN.out] at hq
          rcases List.mem_append.1 hq with hq | hq
          · exact hin q hq
          · simp at hq; subst hq; exact hw
        case measure => simp [intOf]; omega
      · have hZ := HZ.out
        rw [small_bad HND.out (List.mem_of_getElem? HN.out) hw] at hZ
        subst hZ
        have T := refWithin_of n 0 255 wB (c := false) (by
          rw [Bool.and_eq_false_iff, decide_eq_false_iff_not, decide_eq_false_iff_not]; omega)
        go_wp2_with fail
        refine T.mono ?_; rintro e w1 ⟨rfl, rfl⟩
        clear T
        go_wp2
        go_ret2
        exact ⟨_, rfl, rfl, bB⟩
    · have hjI : ¬ (j : Int) < 4 := by omega
      obtain rfl : j = 4 := by omega
      simp only [List.take_succ_cons, List.take_zero, List.mem_cons, List.not_mem_nil, or_false, forall_eq_or_imp, forall_eq] at hin
      obtain ⟨hk1, ha1, hb1, hd1⟩ := hin
      obtain ⟨m0, m1, m2, m3⟩ := X1.cells
      have e1 : IntKind.u8.wrap k = ((byteOf k).toNat : Int) := by rw [byteOf_nat, IntKind.wrap_u8]
      have ha9 : a.size ≤ 100000 := by omega
      have hb9 : b.size ≤ 100000 := by omega
      have nB : w.heap.size + 1 ≤ wB.heap.size := Nat.succ_le_of_lt (Array.getElem?_eq_some_iff.1 X1.row).1
      have XC : ∀ W, Below (w.heap.size + 1) wB W → ActBox W w.heap.size k a b (.slice ad nd cd) := fun W hW => ⟨(hW.block _ (by omega)).trans X1.row⟩
      have XD : ∀ W, Below (w.heap.size + 1) wB W → W.cell? ⟨w.heap.size, 0, none⟩ = some (.int .i64 k) ∧ W.cell? ⟨w.heap.size, 1, none⟩ = some (.string a) := fun W hW => by
        obtain ⟨x0, x1, _, _⟩ := (XC W hW).cells
        exact ⟨x0, x1⟩
      have hN0 : [byteOf k].length + (enc1 (a.size : Int) ++ a.data.toList).length ≤ 1000000000 := by rw [len_tx, List.length_singleton]; omega
      have FLit : ∀ W : World, Below wB.heap.size wB W → Below wB.heap.size wB (W.alloc (.cells #[.int .u8 ((byteOf k).toNat : Int)] 5)) ∧ Own tByte 5 (W.alloc (.cells #[.int .u8 ((byteOf k).toNat : Int)] 5)) (w.heap.size + 1) (fun _ => False) (.slice (some ⟨W.heap.size, 0, none⟩) 1 1) [byteOf k] ∧ w.heap.size + 1 ≤ (W.alloc (.cells #[.int .u8 ((byteOf k).toNat : Int)] 5)).heap.size := fun W hW =>
        ⟨hW.alloc hW.size _, litByte W _ _ (Nat.le_trans nB hW.size), Nat.le_trans (Nat.le_trans nB hW.size) ((Below.refl W.heap.size W).alloc (Nat.le_refl _) _).size⟩
      have BA : Below wB.heap.size wB (wB.alloc (.cells #[.int .u8 ((byteOf k).toNat : Int)] 5)).drew := (FLit wB (Below.refl _ _)).1.drew
      have OA : Own tByte 5 (wB.alloc (.cells #[.int .u8 ((byteOf k).toNat : Int)] 5)).drew (w.heap.size + 1) (fun _ => False) (.slice (some ⟨wB.heap.size, 0, none⟩) 1 1) [byteOf k] := (FLit wB (Below.refl _ _)).2.1.call (Below.refl _ _).drew
      go_wp2_with fail
      go_cut [6] from 9 (fun vb wc => Own tByte 5 wc (w.heap.size + 1) (fun _ => False) vb (enc1 k ++ enc1 (a.size : Int) ++ a.data.toList) ∧ Below (w.heap.size + 1) wB wc)
      case first =>
        go_region_held3 (fun W => W.cell? ⟨w.heap.size, 0, none⟩ = some (.int .i64 k) ∧ W.cell? ⟨w.heap.size, 1, none⟩ = some (.string a))
          (first
            | exact XD _ ((Below.refl _ _).drew)
            | exact XD _ (BA.mono nB)
            | exact XD _ (by assumption)
            | exact XD _ (Below.mono (by assumption) nB)
            | exact XD _ ((FLit _ (by assumption)).1.mono nB)
            | fail)
          (first
            | (go_at_call 49; refine (refTexted a _ ha9).mono ?_; rintro e w1 ⟨_, rfl, h1, b1⟩; obtain ⟨a1, c1, rfl, _, _, _⟩ := h1.shape; generalize hL1 : (enc1 (a.size : Int) ++ a.data.toList).length = L1 at h1 ⊢; have d1 : Below wB.heap.size wB w1 := (Below.refl wB.heap.size wB).drew.trans b1)
            | (go_at_call 49; refine (refTexted a _ ha9).mono ?_; rintro e w1 ⟨_, rfl, h1, b1⟩; obtain ⟨a1, c1, rfl, _, _, _⟩ := h1.shape; generalize hL1 : (enc1 (a.size : Int) ++ a.data.toList).length = L1 at h1 ⊢; have d1 : Below wB.heap.size wB w1 := BA.trans (b1.mono BA.size); have hl1 := OA.call b1)
            | (refine step_buf rfl (.tmp 36) (.tmp 39) rfl rfl rfl hl1 rfl hL1.symm h1 hN0 (Nat.le_trans nB d1.size) ?_; intro v2 w2 ho2 on2; have l2 : Below (w.heap.size + 1) wB w2 := (d1.mono nB).trans (on2.low (fun g hg => (hl1.block g hg).1) (Nat.le_trans nB d1.size)))
            | (refine step_buf rfl (.tmp 36) (.tmp 39) rfl rfl rfl (FLit w1 d1).2.1 rfl hL1.symm (h1.call ((Below.refl _ _).alloc (Nat.le_refl _) _)) hN0 (FLit w1 d1).2.2 ?_; intro v2 w2 ho2 on2; have l2 : Below (w.heap.size + 1) wB w2 := ((FLit w1 d1).1.mono nB).trans (on2.low (fun g hg => ((FLit w1 d1).2.1.block g hg).1) (FLit w1 d1).2.2))
            | fail)
        all_goals
          go_wp2_with fail
          go_meet
          case rel => exact ⟨by simpa [enc1] using ho2, l2⟩
      case rest =>
        obtain ⟨ho2, l2⟩ := hcut
        obtain ⟨w2, rfl⟩ : ∃ w2, w2 = wc := ⟨_, rfl⟩
        obtain ⟨v2, rfl⟩ : ∃ v2, v2 = u6 := ⟨_, rfl⟩
        have e2 : IntKind.u8.wrap (nd : Int) = ((byteOf nd).toNat : Int) := by rw [byteOf_nat, IntKind.wrap_u8]
        have hBL : (enc1 k ++ enc1 (a.size : Int) ++ a.data.toList).length ≤ 300 := by
          have e : a.data.toList.length = a.size := Array.length_toList
          simp only [List.length_append, enc1, List.length_singleton, e]; omega
        generalize hBASE : enc1 k ++ enc1 (a.size : Int) ++ a.data.toList = BASE at ho2 hBL
        have HBASE := keepBack hBASE
        clear hBASE
        have hB0 : w.heap.size + 1 ≤ w2.heap.size := Nat.le_trans nB l2.size
        have KS : ∀ W v', BufOn v2 v' w2 W → W.cell? ⟨w.heap.size, 2, none⟩ = some (.string b) ∧ W.cell? ⟨w.heap.size, 3, none⟩ = some (.slice ad nd cd) := fun W v' hW => by
          obtain ⟨_, _, x2, x3⟩ := (XC W (l2.trans (hW.low (fun g hg => (ho2.block g hg).1) hB0))).cells
          exact ⟨x2, x3⟩
        have hN1 : BASE.length + (enc1 (b.size : Int) ++ b.data.toList).length ≤ 1000000000 := by rw [len_tx]; omega
        have hN2 : (BASE ++ (enc1 (b.size : Int) ++ b.data.toList)).length + [byteOf nd].length ≤ 1000000000 := by rw [List.length_append, len_tx, List.length_singleton]; omega
        have FA : ∀ (w3 : World) (v3 : Value), Own tByte 5 w3 (w.heap.size + 1) (fun _ => False) v3 (BASE ++ (enc1 (b.size : Int) ++ b.data.toList)) → BufOn v2 v3 w2 w3 →
            Own tByte 5 (w3.alloc (.cells #[.int .u8 ((byteOf nd).toNat : Int)] 5)) (w.heap.size + 1) (fun _ => False) v3 (BASE ++ (enc1 (b.size : Int) ++ b.data.toList)) ∧
            Sl tByte (w3.alloc (.cells #[.int .u8 ((byteOf nd).toNat : Int)] 5)) (fun k => w3.heap.size ≤ k) (.slice (some ⟨w3.heap.size, 0, none⟩) 1 1) [byteOf nd] ∧
            w.heap.size + 1 ≤ (w3.alloc (.cells #[.int .u8 ((byteOf nd).toNat : Int)] 5)).heap.size ∧
            ∀ (v4 : Value) (w4 : World), BufOn v3 v4 (w3.alloc (.cells #[.int .u8 ((byteOf nd).toNat : Int)] 5)) w4 → BufOn v2 v4 w2 w4 := fun w3 v3 ho3 on3 => by
          have bA2 : Below w3.heap.size w3 (w3.alloc (.cells #[.int .u8 ((byteOf nd).toNat : Int)] 5)) := (Below.refl _ _).alloc (Nat.le_refl _) _
          exact ⟨ho3.call bA2, litByteSl w3 (byteOf nd) _ rfl, Nat.le_trans (Nat.le_trans hB0 on3.1.size) bA2.size, fun v4 w4 on4 => on3.trans ((BufOn.below bA2).trans on4)⟩
        have GLit : ∀ W : World, Below w2.heap.size w2 W → Below w2.heap.size w2 (W.alloc (.cells #[.int .u8 ((byteOf nd).toNat : Int)] 5)) ∧ Sl tByte (W.alloc (.cells #[.int .u8 ((byteOf nd).toNat : Int)] 5)) (fun k => w2.heap.size ≤ k) (.slice (some ⟨W.heap.size, 0, none⟩) 1 1) [byteOf nd] := fun W hW =>
          ⟨hW.alloc hW.size _, (litByteSl W (byteOf nd) _ rfl).mono fun k hk _ => Nat.le_trans hW.size hk⟩
        have FL : ∀ (W W' : World) (v' s : Value), BufOn v2 v' W W' → Sl tByte W (fun k => w2.heap.size ≤ k) s [byteOf nd] → Sl tByte W' (fun k => w2.heap.size ≤ k) s [byteOf nd] := fun W W' v' s hon hs =>
          hs.step hon.1 fun k hk e => by have := (ho2.block k e).2; omega
        have FLD : Sl tByte (w2.alloc (.cells #[.int .u8 ((byteOf nd).toNat : Int)] 5)).drew (fun k => w2.heap.size ≤ k) (.slice (some ⟨w2.heap.size, 0, none⟩) 1 1) [byteOf nd] := (GLit w2 (Below.refl _ _)).2.keep fun _ _ _ => rfl
        have FBD : Below w2.heap.size w2 (w2.alloc (.cells #[.int .u8 ((byteOf nd).toNat : Int)] 5)).drew := (GLit w2 (Below.refl _ _)).1.drew
        go_wp2_with fail
        go_cut [6] from 9 (fun vb wc => Own tByte 5 wc (w.heap.size + 1) (fun _ => False) vb (enc1 k ++ enc1 (a.size : Int) ++ a.data.toList ++ enc1 (b.size : Int) ++ b.data.toList ++ enc1 (nd : Int)) ∧ Below (w.heap.size + 1) wB wc)
        case first =>
          go_region_held3 (fun W => W.cell? ⟨w.heap.size, 2, none⟩ = some (.string b) ∧ W.cell? ⟨w.heap.size, 3, none⟩ = some (.slice ad nd cd))
            (first
              | exact KS _ _ (BufOn.refl _ _)
              | exact KS _ _ (BufOn.below (Below.refl _ _).drew)
              | exact KS _ _ (by assumption)
              | exact KS _ _ (BufOn.trans (by assumption) (BufOn.below ((Below.refl _ _).alloc (Nat.le_refl _) _)))
              | exact KS _ _ (BufOn.below FBD)
              | exact KS _ _ (BufOn.below (v := v2) (by assumption))
              | exact KS _ _ (BufOn.below (GLit _ (by assumption)).1)
              | fail)
            (first
              | (go_at_call 49; refine (refTexted b _ hb9).mono ?_; rintro e w5 ⟨_, rfl, h5, b5⟩; obtain ⟨a5, c5, rfl, _, _, _⟩ := h5.shape; generalize hL5 : (enc1 (b.size : Int) ++ b.data.toList).length = L5 at h5 ⊢; have d5 : Below w2.heap.size w2 w5 := (Below.refl w2.heap.size w2).drew.trans b5)
              | (go_at_call 49; refine (refTexted b _ hb9).mono ?_; rintro e w5 ⟨_, rfl, h5, b5⟩; obtain ⟨a5, c5, rfl, _, _, _⟩ := h5.shape; generalize hL5 : (enc1 (b.size : Int) ++ b.data.toList).length = L5 at h5 ⊢; have d5 : Below w2.heap.size w2 w5 := FBD.trans (b5.mono FBD.size); have hl5 := FLD.call b5)
              | (refine step_buf rfl (.tmp 41) (.tmp 44) rfl rfl rfl (ho2.call d5) rfl hL5.symm h5 hN1 (Nat.le_trans hB0 d5.size) ?_; intro v3 w3 ho3 on3; have hl3 := FL _ _ _ _ on3 hl5; have on3' : BufOn v2 v3 w2 w3 := (BufOn.below d5).trans on3)
              | (refine step_buf rfl (.tmp 41) (.tmp 44) rfl rfl rfl (ho2.call d5) rfl hL5.symm h5 hN1 (Nat.le_trans hB0 d5.size) ?_; intro v3 w3 ho3 on3; have on3' : BufOn v2 v3 w2 w3 := (BufOn.below d5).trans on3)
              | (refine step_buf rfl (.tmp 41) (.tmp 44) rfl rfl rfl (ho2.call (GLit w5 d5).1) rfl hL5.symm (h5.call ((Below.refl _ _).alloc (Nat.le_refl _) _)) hN1 (Nat.le_trans hB0 (GLit w5 d5).1.size) ?_; intro v3 w3 ho3 on3; have hl3 := FL _ _ _ _ on3 (GLit w5 d5).2; have on3' : BufOn v2 v3 w2 w3 := (BufOn.below (GLit w5 d5).1).trans on3)
              | (refine step_buf rfl (.tmp 45) (.tmp 50) rfl rfl rfl (FA _ _ ho3 on3').1 rfl rfl (FA _ _ ho3 on3').2.1 hN2 (FA _ _ ho3 on3').2.2.1 ?_; intro v4 w4 ho4 on4; have on4' := (FA _ _ ho3 on3').2.2.2 _ _ on4)
              | (refine step_buf rfl (.tmp 45) (.tmp 50) rfl rfl rfl ho3 rfl rfl hl3 hN2 (Nat.le_trans hB0 on3'.1.size) ?_; intro v4 w4 ho4 on4; have on4' := on3'.trans on4)
              | fail)
          all_goals
            go_wp2_with fail
            go_meet
            case rel => exact ⟨by rw [HBASE.out]; simpa [enc1, List.append_assoc] using ho4, l2.trans (on4'.low (fun g hg => (ho2.block g hg).1) hB0)⟩
        case rest =>
          clear FL FLD FBD GLit FA hN1 hN2 KS ho2
          obtain ⟨ho4, l4⟩ := hcut
          obtain ⟨w4, rfl⟩ : ∃ w4, w4 = wc := ⟨_, rfl⟩
          have hBSL : (enc1 k ++ enc1 (a.size : Int) ++ a.data.toList ++ enc1 (b.size : Int) ++ b.data.toList ++ enc1 (nd : Int)).length ≤ 600 := by
            have e : a.data.toList.length = a.size := Array.length_toList
            have e' : b.data.toList.length = b.size := Array.length_toList
            simp only [List.length_append, enc1, List.length_singleton, e, e']; omega
          generalize hBS : enc1 k ++ enc1 (a.size : Int) ++ a.data.toList ++ enc1 (b.size : Int) ++ b.data.toList ++ enc1 (nd : Int) = BS at ho4 hBSL
          have HBS := keepBack hBS
          obtain ⟨_, _, _, x3⟩ := (XC w4 l4).cells
          clear hBS
          go_wp2_with fail
          clear x3
          go_loopw [6, 7, 8] (fun ub uk _ wr => ∃ (j : Nat) (vb : Value), vb = ub ∧ j ≤ nd ∧ uk = .int .i64 j ∧ Own tByte 5 wr (w.heap.size + 1) (fun _ => False) vb (BS ++ (d.take j).flatMap chgBy) ∧ Below (w.heap.size + 1) wB wr ∧ ∀ x ∈ d.take j, chgBad x = false) (fun _ uk _ _ => nd - (intOf uk).toNat)
          case atStart => exact ⟨0, _, rfl, Nat.zero_le _, rfl, by simpa using ho4, l4, by simp⟩
          case round =>
            obtain ⟨j, vb, rfl, hj, rfl, hob, bR, hgood⟩ := hrel
            obtain ⟨_, _, _, x3⟩ := (XC wr bR).cells
            have lowR : Below w.heap.size w wr := bB.trans (bR.mono (by omega))
            have zR := bR.size
            by_cases hlt : j < nd
            · have hjI : (j : Int) < nd := by omega
              obtain ⟨y, hy⟩ : ∃ y, d[j]? = some y := ⟨d[j]'(by have := HND.out; omega), List.getElem?_eq_getElem _⟩
              obtain ⟨bc, oc, hix, _, hbc, ok1, ok2, ok3, hc0, hc1, hc2⟩ := (hd.call lowR).idxChgAt aChg j j y rfl hy
              have htk : (d.take (j + 1)).flatMap chgBy = (d.take j).flatMap chgBy ++ chgBy y := by rw [List.take_add_one, hy]; simp
              have hmem : ∀ x ∈ d.take (j + 1), x ∈ d.take j ∨ x = y := fun x hx => by
                rw [List.take_add_one, hy] at hx
                rcases List.mem_append.1 hx with h | h
                · exact .inl h
                · exact .inr (by simpa using h)
              have hjl : ((d.take j).flatMap chgBy).length ≤ 1280 := by rw [chgBy_len, List.length_take]; omega
              have HTK := keepBack htk
              have HMEM := keepBack hmem
              have HYD := keepBack (List.mem_of_getElem? hy)
              clear htk hmem hy
              generalize (d.take j).flatMap chgBy = DJ at *
              by_cases c1 : 0 ≤ y.1 ∧ y.1 ≤ 255
              · have T1 := fun W => refWithin_of y.1 0 255 W (c := true) (by simp [c1.1, c1.2])
                by_cases c2 : -1 ≤ y.2.1 ∧ y.2.1 ≤ 65534
                · have T2 := fun W => refWithin_of y.2.1 (-1) 65534 W (c := true) (by simp [c2.1, c2.2])
                  by_cases c3 : -1 ≤ y.2.2 ∧ y.2.2 ≤ 65534
                  · have T3 := fun W => refWithin_of y.2.2 (-1) 65534 W (c := true) (by simp [c3.1, c3.2])
                    obtain ⟨wX, hwX⟩ : ∃ wX, wX = wr.alloc (.cells #[.int .i64 y.1, .int .i64 y.2.1, .int .i64 y.2.2] 81) := ⟨_, rfl⟩
                    have bX : Below wr.heap.size wr wX := by rw [hwX]; exact (Below.refl _ _).alloc (Nat.le_refl _) _
                    have sX : wX.heap.size = wr.heap.size + 1 := by rw [hwX]; simp
                    have eX : wX.heap[wr.heap.size]? = some (.cells #[.int .i64 y.1, .int .i64 y.2.1, .int .i64 y.2.2] 81) := by rw [hwX]; exact heap_alloc_new _ _
                    have HWX := keepBack hwX
                    clear hwX
                    have hoX := hob.call bX
                    have hown : ∀ g, vb.ownBlock = some g → g < wr.heap.size := fun g hg => (hob.block g hg).2
                    have hownl : ∀ g, vb.ownBlock = some g → w.heap.size + 1 ≤ g := fun g hg => (hob.block g hg).1
                    have KS : ∀ W v', BufOn vb v' wX W → W.cell? ⟨wr.heap.size, 0, none⟩ = some (.int .i64 y.1) ∧ W.cell? ⟨wr.heap.size, 1, none⟩ = some (.int .i64 y.2.1) ∧ W.cell? ⟨wr.heap.size, 2, none⟩ = some (.int .i64 y.2.2) := fun W v' hW => by
                      have e := (hW.1.block wr.heap.size (by omega) (fun e => by have := hown _ e; omega)).trans eX
                      exact ⟨by rw [World.cell?, e]; rfl, by rw [World.cell?, e]; rfl, by rw [World.cell?, e]; rfl⟩
                    obtain ⟨k0, k1, k2⟩ := KS wX vb (BufOn.refl _ _)
                    have e3 : IntKind.u8.wrap y.1 = ((byteOf y.1).toNat : Int) := by rw [byteOf_nat, IntKind.wrap_u8]
                    obtain ⟨WL, hWL⟩ : ∃ WL, WL = (wX.alloc (.cells #[.int .u8 ((byteOf y.1).toNat : Int)] 5)).drew := ⟨_, rfl⟩
                    have bL : Below wX.heap.size wX WL := by rw [hWL]; exact ((Below.refl _ _).alloc (Nat.le_refl _) _).drew
                    have hoL := hoX.call bL
                    have slL : Sl tByte WL (fun k => wX.heap.size ≤ k) (.slice (some ⟨wX.heap.size, 0, none⟩) 1 1) [byteOf y.1] := by rw [hWL]; exact (litByteSl wX _ _ rfl).keep fun _ _ _ => rfl
                    have onL : BufOn vb vb wX WL := BufOn.below bL
                    have hBX : w.heap.size + 1 ≤ wX.heap.size := by omega
                    have hBL' : w.heap.size + 1 ≤ WL.heap.size := Nat.le_trans hBX bL.size
                    rw [hWL] at hoL slL onL hBL'
                    clear hWL bL
                    have hM1 : (BS ++ DJ).length + [byteOf y.1].length ≤ 1000000000 := by rw [List.length_singleton, List.length_append]; omega
                    have hM2 : (BS ++ DJ ++ [byteOf y.1]).length + (enc2 (y.2.1 + 1)).length ≤ 1000000000 := by rw [List.length_append, List.length_append, List.length_singleton, len_e2]; omega
                    have hM3 : (BS ++ DJ ++ [byteOf y.1] ++ enc2 (y.2.1 + 1)).length + (enc2 (y.2.2 + 1)).length ≤ 1000000000 := by rw [List.length_append, List.length_append, List.length_append, List.length_singleton, len_e2, len_e2]; omega
                    have g1 : 0 ≤ y.2.1 + 1 := by omega
                    have g2 : y.2.1 + 1 ≤ 100000 := by omega
                    have g3 : 0 ≤ y.2.2 + 1 := by omega
                    have g4 : y.2.2 + 1 ≤ 100000 := by omega
                    have hbadN : chgBad y = false := by
                      rw [chgBad, outN, outN, outN]
                      simp only [if_pos, show ¬ (2 : Nat) = 1 by decide, if_false, Bool.or_eq_false_iff, decide_eq_false_iff_not]
                      omega
                    clear sX
                    go_wp2_with fail
                    rw [← HWX.out]
                    refine (T1 _).mono ?_; rintro e wa ⟨rfl, rfl⟩
                    go_wp2_with fail
                    refine (T2 _).mono ?_; rintro e wa ⟨rfl, rfl⟩
                    go_wp2_with fail
                    refine (T3 _).mono ?_; rintro e wa ⟨rfl, rfl⟩
                    clear T1 T2 T3
                    have q1 := wrapAdd1 y.2.1 c2
                    have q2 := wrapAdd1 y.2.2 c3
                    go_wp2_with fail
                    go_region_held3 (fun W => W.cell? ⟨wr.heap.size, 0, none⟩ = some (.int .i64 y.1) ∧ W.cell? ⟨wr.heap.size, 1, none⟩ = some (.int .i64 y.2.1) ∧ W.cell? ⟨wr.heap.size, 2, none⟩ = some (.int .i64 y.2.2))
                      (first
                        | exact KS _ _ (BufOn.refl _ _)
                        | exact KS _ _ (BufOn.below (Below.refl _ _).drew)
                        | exact KS _ _ (BufOn.below ((Below.refl _ _).alloc (Nat.le_refl _) _).drew)
                        | exact KS _ _ (by assumption)
                        | fail)
                      (first
                        | (refine step_buf rfl (.tmp 80) (.tmp 84) rfl rfl rfl hoL rfl rfl slL hM1 hBL' ?_; intro v5 w6 ho5 on5; have on5' : BufOn vb v5 wX w6 := onL.trans on5)
                        | (go_at_call 50; refine (refTwoBytes (y.2.1 + 1) w6 g1 g2).mono ?_; rintro e w7 ⟨_, rfl, h7, b7⟩; obtain ⟨a7, c7, rfl, _, _, _⟩ := h7.shape; have on7' : BufOn vb v5 wX w7 := on5'.trans (BufOn.below b7))
                        | (refine step_buf rfl (.tmp 85) (.tmp 89) rfl rfl rfl (ho5.call b7) rfl rfl h7 hM2 (Nat.le_trans (Nat.le_trans hBL' on5.1.size) b7.size) ?_; intro v8 w8 ho8 on8; have on8' : BufOn vb v8 wX w8 := on7'.trans on8)
                        | (go_at_call 50; refine (refTwoBytes (y.2.2 + 1) w8 g3 g4).mono ?_; rintro e w9 ⟨_, rfl, h9, b9⟩; obtain ⟨a9, c9, rfl, _, _, _⟩ := h9.shape; have on9' : BufOn vb v8 wX w9 := on8'.trans (BufOn.below b9))
                        | (refine step_buf rfl (.tmp 90) (.tmp 94) rfl rfl rfl (ho8.call b9) rfl rfl h9 hM3 (Nat.le_trans hBX on9'.1.size) ?_; intro v10 w10 ho10 on10; have on10' : BufOn vb v10 wX w10 := on9'.trans on10)
                        | fail)
                    all_goals
                      clear q1 q2
                      go_wp2_with fail
                      go_roundw
                      case rel => exact ⟨j + 1, v10, rfl, by omega, by go_num, by rw [HTK.out]; simpa [chgBy, enc1, List.append_assoc] using ho10, bR.trans ((bX.mono (by omega)).trans (on10'.low hownl hBX)), fun x hx => (HMEM.out x hx).elim (hgood x) (fun e => e ▸ hbadN)⟩
                      case measure => simp [intOf]; omega
                  · have hZ := HZ.out
                    rw [chg_bad HYD.out (chgBad_of (by omega))] at hZ
                    subst hZ
                    have TF := fun W => refWithin_of y.2.2 (-1) 65534 W (c := false) (by rw [Bool.and_eq_false_iff, decide_eq_false_iff_not, decide_eq_false_iff_not]; omega)
                    go_wp2_with fail
                    refine (T1 _).mono ?_; rintro e wa ⟨rfl, rfl⟩
                    go_wp2_with fail
                    refine (T2 _).mono ?_; rintro e wa ⟨rfl, rfl⟩
                    go_wp2_with fail
                    refine (TF _).mono ?_; rintro e wa ⟨rfl, rfl⟩
                    go_wp2
                    go_ret2
                    exact ⟨_, rfl, rfl, lowR.alloc lowR.size _⟩
                · have hZ := HZ.out
                  rw [chg_bad HYD.out (chgBad_of (by omega))] at hZ
                  subst hZ
                  have TF := fun W => refWithin_of y.2.1 (-1) 65534 W (c := false) (by rw [Bool.and_eq_false_iff, decide_eq_false_iff_not, decide_eq_false_iff_not]; omega)
                  go_wp2_with fail
                  refine (T1 _).mono ?_; rintro e wa ⟨rfl, rfl⟩
                  go_wp2_with fail
                  refine (TF _).mono ?_; rintro e wa ⟨rfl, rfl⟩
                  go_wp2
                  go_ret2
                  exact ⟨_, rfl, rfl, lowR.alloc lowR.size _⟩
              · have hZ := HZ.out
                rw [chg_bad HYD.out (chgBad_of (by omega))] at hZ
                subst hZ
                have TF := fun W => refWithin_of y.1 0 255 W (c := false) (by rw [Bool.and_eq_false_iff, decide_eq_false_iff_not, decide_eq_false_iff_not]; omega)
                go_wp2_with fail
                refine (TF _).mono ?_; rintro e wa ⟨rfl, rfl⟩
                go_wp2
                go_ret2
                exact ⟨_, rfl, rfl, lowR.alloc lowR.size _⟩
            · obtain rfl : j = nd := by omega
              have hje : d.take j = d := List.take_of_length_le (by have := HND.out; omega)
              rw [hje] at hob hgood
              clear hje
              have hjI : ¬ (j : Int) < j := by omega
              have hZ := HZ.out
              rw [acts_good HND.out HBS.out hk1 ha1 hb1 hd1 hgood] at hZ
              subst hZ
              have h0 : 0 < (BS ++ d.flatMap chgBy).length := by rw [← HBS.out]; simp [enc1]
              have htx := hob.text h0
              go_wp2
              go_ret2
              exact ⟨_, rfl, rfl, lowR⟩

end Go.Pch
end
