/- The walk of the law ThreeTrue. -/
import Derived.Test.YtipondhhchicjaaThrZ
namespace Go.Pch
open Go.RowKit Go.Proofs
set_option maxRecDepth 100000

set_option maxHeartbeats 4000000 in
theorem lawThreeTrue (v0 : Value) (base : List Row) (v1 : Value) (a : List Row) (v2 : Value) (b : List Row) (key : Int) (w : World) (h0 : Sl tRow w (fun _ => True) v0 base) (h1 : Sl tRow w (fun _ => True) v1 a) (h2 : Sl tRow w (fun _ => True) v2 b) (hkey : i64ok key) :
    Calls Try.prog 4 #[v0, v1, v2, .int .i64 key] w (Ret w fun r _ => r = .bool true) := by
  by_cases hz : (mergeP base a b).2.2 = 0 ∧ (mergeP base b a).2.2 = 0
  · obtain ⟨he, hlen, hP⟩ := merge_inv hz.1
    obtain ⟨_, hlen2, hP2⟩ := merge_inv hz.2
    have m1 := merge_only he.1 he.2.1
    have m2 := merge_other he.1 he.2.2
    have m3 := merge_both he.1 he.2.1
    obtain ⟨kn, hk, hk9⟩ : ∃ i : Nat, chooseL key 100 = (i : Int) ∧ i < 100 := by
      have := choose_bounds (c := key) (n := 100) (by omega)
      exact ⟨(chooseL key 100).toNat, by omega, by omega⟩
    have f0 := find_ok he.1 (k := (kn : Int)) (by omega) (by omega)
    have f1 := find_ok he.2.1 (k := (kn : Int)) (by omega) (by omega)
    have f2 := find_ok he.2.2 (k := (kn : Int)) (by omega) (by omega)
    have f3 := find_merge ⟨he, hlen⟩ (k := (kn : Int)) (by omega) (by omega)
    have HMEM := keepBack (clash_mem (base := base) (a := a) (b := b) (k := (kn : Int)) (by omega) (by omega))
    have HMT := keepBack (show mergeT (valueOf base) (valueOf a) (valueOf b) (kn : Int) = if valueOf a kn = valueOf b kn then valueOf a kn else if valueOf a kn = valueOf base kn then valueOf b kn else valueOf a kn from rfl)
    have HSW := keepBack (fun h => merge_swap (base := base) (a := a) (b := b) h)
    have hcl : (clashL base a b).length ≤ 100 := clash_len _ _ _ 100 0
    rw [← clashL_swap base a b] at hP2
    clear hz
    go_enter Try.func4, Try.ntmps4
    go_wp2_with fail
    refine (threeMerge_is v0 v1 v2 base a b _ _ _ w h0 h1 h2 hP).mono ?_; rintro e w1 ⟨_, rfl, ⟨x1, y1, rfl, hx1, hy1⟩, b1⟩
    have s1 := b1.size
    go_wp2_with fail
    refine (threeMerge_is v0 v2 v1 base b a _ _ _ w1 (h0.call b1) (h2.call b1) (h1.call b1) hP2).mono ?_; rintro e w2 ⟨_, rfl, ⟨x2, y2, rfl, hx2, hy2⟩, b2⟩
    have b02 := b1.trans (b2.mono s1)
    have s2 := b02.size
    replace hx1 := hx1.call b2
    replace hy1 := hy1.call b2
    go_wp2_with fail
    refine (threeMerge_is v0 v1 v0 base a base _ _ _ w2 (h0.call b02) (h1.call b02) (h0.call b02) m1).mono ?_; rintro e w3 ⟨_, rfl, ⟨x3, y3, rfl, hx3, hy3⟩, b3⟩
    have b03 := b02.trans (b3.mono s2)
    have s3 := b03.size
    replace hx1 := hx1.call b3
    replace hy1 := hy1.call b3
    replace hx2 := hx2.call b3
    replace hy2 := hy2.call b3
    obtain ⟨a3, c3, rfl, _, _, _⟩ := hy3.shapeAt 0 rfl
    go_wp2_with fail
    refine (threeMerge_is v0 v0 v2 base base b _ _ _ w3 (h0.call b03) (h0.call b03) (h2.call b03) m2).mono ?_; rintro e w4 ⟨_, rfl, ⟨x4, y4, rfl, hx4, hy4⟩, b4⟩
    have b04 := b03.trans (b4.mono s3)
    have s4 := b04.size
    replace hx1 := hx1.call b4
    replace hy1 := hy1.call b4
    replace hx2 := hx2.call b4
    replace hy2 := hy2.call b4
    replace hx3 := hx3.call b4
    obtain ⟨a4, c4, rfl, _, _, _⟩ := hy4.shapeAt 0 rfl
    go_wp2_with fail
    refine (threeMerge_is v0 v1 v1 base a a _ _ _ w4 (h0.call b04) (h1.call b04) (h1.call b04) m3).mono ?_; rintro e w5 ⟨_, rfl, ⟨x5, y5, rfl, hx5, hy5⟩, b5⟩
    have b05 := b04.trans (b5.mono s4)
    have s5 := b05.size
    replace hx1 := hx1.call b5
    replace hy1 := hy1.call b5
    replace hx2 := hx2.call b5
    replace hy2 := hy2.call b5
    replace hx3 := hx3.call b5
    replace hx4 := hx4.call b5
    obtain ⟨a5, c5, rfl, _, _, _⟩ := hy5.shapeAt 0 rfl
    clear hP hP2 m1 m2 m3 hlen hlen2 he hy3 hy4 hy5
    have hyv := hy1
    obtain ⟨a1, c1, rfl, _, _, _⟩ := hy1.shape
    go_wp2_with fail
    refine (refSameRows_of (c := true) x3 v1 _ _ _ _ w5 hx3 (h1.call b05) (by simp)).mono ?_; rintro e w6 ⟨rfl, d6⟩
    have b06 := b05.trans (d6.below.mono s5)
    have s6 := b06.size
    have b6 := d6.below
    replace hx1 := hx1.call b6
    replace hyv := hyv.call b6
    replace hx2 := hx2.call b6
    replace hy2 := hy2.call b6
    replace hx4 := hx4.call b6
    replace hx5 := hx5.call b6
    go_wp2_with fail
    refine (refSameRows_of (c := true) x4 v2 _ _ _ _ w6 hx4 (h2.call b06) (by simp)).mono ?_; rintro e w7 ⟨rfl, d7⟩
    have b07 := b06.trans (d7.below.mono s6)
    have s7 := b07.size
    have b7 := d7.below
    replace hx1 := hx1.call b7
    replace hyv := hyv.call b7
    replace hx2 := hx2.call b7
    replace hy2 := hy2.call b7
    replace hx5 := hx5.call b7
    go_wp2_with fail
    refine (refSameRows_of (c := true) x5 v1 _ _ _ _ w7 hx5 (h1.call b07) (by simp)).mono ?_; rintro e w8 ⟨rfl, d8⟩
    have b08 := b07.trans (d8.below.mono s7)
    have s8 := b08.size
    have b8 := d8.below
    replace hx1 := hx1.call b8
    replace hyv := hyv.call b8
    replace hx2 := hx2.call b8
    replace hy2 := hy2.call b8
    clear hx3 hx4 hx5
    go_wp2_with fail
    refine (sameInts_of (c := true) _ y2 _ _ _ _ w8 hyv hy2 (by simp)).mono ?_; rintro e w9 ⟨rfl, d9⟩
    have b09 := b08.trans (d9.below.mono s8)
    have s9 := b09.size
    have b9 := d9.below
    replace hx1 := hx1.call b9
    replace hyv := hyv.call b9
    replace hx2 := hx2.call b9
    clear hy2
    by_cases hce : clashL base a b = []
    · have hq : (((clashL base a b).length : Int) == 0) = true := by rw [hce]; rfl
      have HSW2 := keepBack (HSW.out hce)
      clear hce
      go_wp2_with fail
      refine (refSameRows_of (c := true) x1 x2 _ _ _ _ w9 hx1 hx2 (by simpa using HSW2.out)).mono ?_; rintro e w10 ⟨rfl, d10⟩
      have b010 := b09.trans (d10.below.mono s9)
      have s10 := b010.size
      have b10 := d10.below
      replace hx1 := hx1.call b10
      replace hyv := hyv.call b10
      clear hx2 hq
      go_wp2_with fail
      refine (lawChoose key 100 w10 hkey (by omega) (by omega)).mono ?_; rintro e w' ⟨rfl, rfl⟩
      rw [hk]
      go_wp2_with fail
      refine (rowsFindIs v0 base kn _ w10 (h0.call b010) f0).mono ?_; rintro e w11 ⟨_, rfl, rfl, b11⟩
      have b011 := b010.trans (b11.mono s10)
      have s11 := b011.size
      replace hx1 := hx1.call b11
      replace hyv := hyv.call b11
      go_wp2_with fail
      refine (rowsFindIs v1 a kn _ w11 (h1.call b011) f1).mono ?_; rintro e w11b ⟨_, rfl, rfl, b11b⟩
      have b011b := b011.trans (b11b.mono s11)
      have s11b := b011b.size
      replace hx1 := hx1.call b11b
      replace hyv := hyv.call b11b
      go_wp2_with fail
      refine (rowsFindIs v2 b kn _ w11b (h2.call b011b) f2).mono ?_; rintro e w11c ⟨_, rfl, rfl, b11c⟩
      have b011c := b011b.trans (b11c.mono s11b)
      have s11c := b011c.size
      replace hx1 := hx1.call b11c
      replace hyv := hyv.call b11c
      go_wp2_with fail
      refine (rowsFindIs x1 _ kn _ w11c hx1 f3).mono ?_; rintro e w11d ⟨_, rfl, rfl, b11d⟩
      have b011d := b011c.trans (b11d.mono s11c)
      have s11d := b011d.size
      replace hyv := hyv.call b11d
      clear hx1 f0 f1 f2 f3 h0 h1 h2
      generalize mergeT (valueOf base) (valueOf a) (valueOf b) (kn : Int) = t at *
      generalize valueOf base (kn : Int) = p at *
      generalize valueOf a (kn : Int) = q at *
      generalize valueOf b (kn : Int) = r at *
      generalize clashL base a b = C at *
      go_wp2_with fail
      go_loopw [33, 34] (fun cl i wr => ∃ (k : Nat), k ≤ C.length ∧ i = .int .i64 k ∧ cl = .bool (decide ((kn : Int) ∈ C.take k)) ∧ Below w.heap.size w wr ∧ Below w11d.heap.size w11d wr) (fun _ i _ => C.length - (intOf i).toNat)
      case atStart => exact ⟨0, Nat.zero_le _, rfl, by simp, b011d, Below.refl _ _⟩
      case round =>
        obtain ⟨k, hk', rfl, rfl, b012, hbr⟩ := hrel
        have s12 := b012.size
        by_cases hlt : k < C.length
        · obtain ⟨pb, po, hix, _, hbs, ok1, hc0⟩ := (hyv.call hbr).idxIntS aIntS k k rfl hlt
          have HIN := keepBack (show (kn : Int) ∈ C.take (k + 1) ↔ (kn : Int) ∈ C.take k ∨ (kn : Int) = C[k] by rw [List.take_succ_eq_append_getElem hlt, List.mem_append, List.mem_singleton])
          generalize C[k] = ck at *
          by_cases hin : (kn : Int) ∈ C.take k
          · have hd : decide ((kn : Int) ∈ C.take k) = true := by simpa using hin
            have HD : Hid (decide ((kn : Int) ∈ C.take (k + 1)) = true) := keepBack (by rw [decide_eq_true_eq]; exact HIN.out.2 (.inl hin))
            clear hin
            rw [hd]
            go_wp2
            go_roundw
            case rel => exact ⟨k + 1, by omega, by go_num, by rw [HD.out], b012, hbr⟩
            case measure => simp [intOf]; omega
          · have hd : decide ((kn : Int) ∈ C.take k) = false := by simpa using hin
            have HD : Hid (decide ((kn : Int) ∈ C.take (k + 1)) = (ck == (kn : Int))) := keepBack (by
              rw [Bool.eq_iff_iff, decide_eq_true_eq, beq_iff_eq]
              exact ⟨fun h => by rcases HIN.out.1 h with h | h; exact absurd h hin; exact h.symm, fun h => HIN.out.2 (.inr h.symm)⟩)
            clear hin
            rw [hd]
            go_wp2
            go_roundw
            case rel => exact ⟨k + 1, by omega, by go_num, by rw [HD.out], b012, hbr⟩
            case measure => simp [intOf]; omega
        · have hta : C.take k = C := List.take_of_length_le (by omega)
          rw [hta]
          obtain ⟨w12, rfl⟩ : ∃ w12 : World, w12 = wr := ⟨_, rfl⟩
          by_cases hA : q = p
          · have ht : t = r := by
              rw [HMT.out]
              by_cases h : q = r
              · rw [if_pos h]; exact h
              · rw [if_neg h, if_pos hA]
            have hd : decide ((kn : Int) ∈ C) = false := by rw [decide_eq_false_iff_not, HMEM.out]; exact fun h => h.2.1 hA
            rw [hd]
            subst ht
            subst hA
            clear hd HMT HMEM
            by_cases hB : t = q
            · subst hB
              go_wp2_with fail
              refine (threeBegun w12).mono ?_; rintro e w13 ⟨_, rfl, rfl, b13⟩
              go_wp2
              go_ret
              exact ⟨_, rfl, rfl, b012.trans (b13.mono s12)⟩
            · have g1 : (t != q) = true := by simpa using hB
              have g2 : (q != t) = true := by simpa using fun e : q = t => hB e.symm
              clear hB
              go_wp2_with fail
              refine (threeBegun w12).mono ?_; rintro e w13 ⟨_, rfl, rfl, b13⟩
              go_wp2
              go_ret
              exact ⟨_, rfl, rfl, b012.trans (b13.mono s12)⟩
          · have g1 : (q != p) = true := by simpa using hA
            by_cases hB : r = p
            · have ht : t = q := by
                have hqr : ¬ q = r := fun e => hA (e.trans hB)
                rw [HMT.out, if_neg hqr, if_neg hA]
              have hd : decide ((kn : Int) ∈ C) = false := by rw [decide_eq_false_iff_not, HMEM.out]; exact fun h => h.2.2 hB
              rw [hd]
              subst ht
              subst hB
              clear hd HMT HMEM hA
              go_wp2_with fail
              refine (threeBegun w12).mono ?_; rintro e w13 ⟨_, rfl, rfl, b13⟩
              go_wp2
              go_ret
              exact ⟨_, rfl, rfl, b012.trans (b13.mono s12)⟩
            · have g2 : (r != p) = true := by simpa using hB
              by_cases hC : q = r
              · have ht : t = q := by rw [HMT.out, if_pos hC]
                have hd : decide ((kn : Int) ∈ C) = false := by rw [decide_eq_false_iff_not, HMEM.out]; exact fun h => h.1 hC
                rw [hd]
                subst ht
                subst hC
                clear hd HMT HMEM hA hB
                go_wp2_with fail
                refine (threeBegun w12).mono ?_; rintro e w13 ⟨_, rfl, rfl, b13⟩
                go_wp2
                go_ret
                exact ⟨_, rfl, rfl, b012.trans (b13.mono s12)⟩
              · have g3 : (q != r) = true := by simpa using hC
                have ht : t = q := by rw [HMT.out, if_neg hC, if_neg hA]
                have hd : decide ((kn : Int) ∈ C) = true := by rw [decide_eq_true_eq, HMEM.out]; exact ⟨hC, hA, hB⟩
                rw [hd]
                subst ht
                clear hd HMT HMEM hA hB hC
                go_wp2_with fail
                refine (threeBegun w12).mono ?_; rintro e w13 ⟨_, rfl, rfl, b13⟩
                go_wp2
                go_ret
                exact ⟨_, rfl, rfl, b012.trans (b13.mono s12)⟩
    · have hq : (((clashL base a b).length : Int) == 0) = false := by rw [beq_eq_false_iff_ne]; have := List.length_pos_iff.2 hce; omega
      obtain ⟨w10, rfl⟩ : ∃ w10 : World, w10 = w9 := ⟨_, rfl⟩
      have b010 := b09
      have s10 := s9
      clear hx2 hce
      go_wp2_with fail
      refine (lawChoose key 100 w10 hkey (by omega) (by omega)).mono ?_; rintro e w' ⟨rfl, rfl⟩
      rw [hk]
      go_wp2_with fail
      refine (rowsFindIs v0 base kn _ w10 (h0.call b010) f0).mono ?_; rintro e w11 ⟨_, rfl, rfl, b11⟩
      have b011 := b010.trans (b11.mono s10)
      have s11 := b011.size
      replace hx1 := hx1.call b11
      replace hyv := hyv.call b11
      go_wp2_with fail
      refine (rowsFindIs v1 a kn _ w11 (h1.call b011) f1).mono ?_; rintro e w11b ⟨_, rfl, rfl, b11b⟩
      have b011b := b011.trans (b11b.mono s11)
      have s11b := b011b.size
      replace hx1 := hx1.call b11b
      replace hyv := hyv.call b11b
      go_wp2_with fail
      refine (rowsFindIs v2 b kn _ w11b (h2.call b011b) f2).mono ?_; rintro e w11c ⟨_, rfl, rfl, b11c⟩
      have b011c := b011b.trans (b11c.mono s11b)
      have s11c := b011c.size
      replace hx1 := hx1.call b11c
      replace hyv := hyv.call b11c
      go_wp2_with fail
      refine (rowsFindIs x1 _ kn _ w11c hx1 f3).mono ?_; rintro e w11d ⟨_, rfl, rfl, b11d⟩
      have b011d := b011c.trans (b11d.mono s11c)
      have s11d := b011d.size
      replace hyv := hyv.call b11d
      clear hx1 f0 f1 f2 f3 h0 h1 h2
      generalize mergeT (valueOf base) (valueOf a) (valueOf b) (kn : Int) = t at *
      generalize valueOf base (kn : Int) = p at *
      generalize valueOf a (kn : Int) = q at *
      generalize valueOf b (kn : Int) = r at *
      generalize clashL base a b = C at *
      go_wp2_with fail
      go_loopw [33, 34] (fun cl i wr => ∃ (k : Nat), k ≤ C.length ∧ i = .int .i64 k ∧ cl = .bool (decide ((kn : Int) ∈ C.take k)) ∧ Below w.heap.size w wr ∧ Below w11d.heap.size w11d wr) (fun _ i _ => C.length - (intOf i).toNat)
      case atStart => exact ⟨0, Nat.zero_le _, rfl, by simp, b011d, Below.refl _ _⟩
      case round =>
        obtain ⟨k, hk', rfl, rfl, b012, hbr⟩ := hrel
        have s12 := b012.size
        by_cases hlt : k < C.length
        · obtain ⟨pb, po, hix, _, hbs, ok1, hc0⟩ := (hyv.call hbr).idxIntS aIntS k k rfl hlt
          have HIN := keepBack (show (kn : Int) ∈ C.take (k + 1) ↔ (kn : Int) ∈ C.take k ∨ (kn : Int) = C[k] by rw [List.take_succ_eq_append_getElem hlt, List.mem_append, List.mem_singleton])
          generalize C[k] = ck at *
          by_cases hin : (kn : Int) ∈ C.take k
          · have hd : decide ((kn : Int) ∈ C.take k) = true := by simpa using hin
            have HD : Hid (decide ((kn : Int) ∈ C.take (k + 1)) = true) := keepBack (by rw [decide_eq_true_eq]; exact HIN.out.2 (.inl hin))
            clear hin
            rw [hd]
            go_wp2
            go_roundw
            case rel => exact ⟨k + 1, by omega, by go_num, by rw [HD.out], b012, hbr⟩
            case measure => simp [intOf]; omega
          · have hd : decide ((kn : Int) ∈ C.take k) = false := by simpa using hin
            have HD : Hid (decide ((kn : Int) ∈ C.take (k + 1)) = (ck == (kn : Int))) := keepBack (by
              rw [Bool.eq_iff_iff, decide_eq_true_eq, beq_iff_eq]
              exact ⟨fun h => by rcases HIN.out.1 h with h | h; exact absurd h hin; exact h.symm, fun h => HIN.out.2 (.inr h.symm)⟩)
            clear hin
            rw [hd]
            go_wp2
            go_roundw
            case rel => exact ⟨k + 1, by omega, by go_num, by rw [HD.out], b012, hbr⟩
            case measure => simp [intOf]; omega
        · have hta : C.take k = C := List.take_of_length_le (by omega)
          rw [hta]
          obtain ⟨w12, rfl⟩ : ∃ w12 : World, w12 = wr := ⟨_, rfl⟩
          by_cases hA : q = p
          · have ht : t = r := by
              rw [HMT.out]
              by_cases h : q = r
              · rw [if_pos h]; exact h
              · rw [if_neg h, if_pos hA]
            have hd : decide ((kn : Int) ∈ C) = false := by rw [decide_eq_false_iff_not, HMEM.out]; exact fun h => h.2.1 hA
            rw [hd]
            subst ht
            subst hA
            clear hd HMT HMEM
            by_cases hB : t = q
            · subst hB
              go_wp2_with fail
              refine (threeBegun w12).mono ?_; rintro e w13 ⟨_, rfl, rfl, b13⟩
              go_wp2
              go_ret
              exact ⟨_, rfl, rfl, b012.trans (b13.mono s12)⟩
            · have g1 : (t != q) = true := by simpa using hB
              have g2 : (q != t) = true := by simpa using fun e : q = t => hB e.symm
              clear hB
              go_wp2_with fail
              refine (threeBegun w12).mono ?_; rintro e w13 ⟨_, rfl, rfl, b13⟩
              go_wp2
              go_ret
              exact ⟨_, rfl, rfl, b012.trans (b13.mono s12)⟩
          · have g1 : (q != p) = true := by simpa using hA
            by_cases hB : r = p
            · have ht : t = q := by
                have hqr : ¬ q = r := fun e => hA (e.trans hB)
                rw [HMT.out, if_neg hqr, if_neg hA]
              have hd : decide ((kn : Int) ∈ C) = false := by rw [decide_eq_false_iff_not, HMEM.out]; exact fun h => h.2.2 hB
              rw [hd]
              subst ht
              subst hB
              clear hd HMT HMEM hA
              go_wp2_with fail
              refine (threeBegun w12).mono ?_; rintro e w13 ⟨_, rfl, rfl, b13⟩
              go_wp2
              go_ret
              exact ⟨_, rfl, rfl, b012.trans (b13.mono s12)⟩
            · have g2 : (r != p) = true := by simpa using hB
              by_cases hC : q = r
              · have ht : t = q := by rw [HMT.out, if_pos hC]
                have hd : decide ((kn : Int) ∈ C) = false := by rw [decide_eq_false_iff_not, HMEM.out]; exact fun h => h.1 hC
                rw [hd]
                subst ht
                subst hC
                clear hd HMT HMEM hA hB
                go_wp2_with fail
                refine (threeBegun w12).mono ?_; rintro e w13 ⟨_, rfl, rfl, b13⟩
                go_wp2
                go_ret
                exact ⟨_, rfl, rfl, b012.trans (b13.mono s12)⟩
              · have g3 : (q != r) = true := by simpa using hC
                have ht : t = q := by rw [HMT.out, if_neg hC, if_neg hA]
                have hd : decide ((kn : Int) ∈ C) = true := by rw [decide_eq_true_eq, HMEM.out]; exact ⟨hC, hA, hB⟩
                rw [hd]
                subst ht
                clear hd HMT HMEM hA hB hC
                go_wp2_with fail
                refine (threeBegun w12).mono ?_; rintro e w13 ⟨_, rfl, rfl, b13⟩
                go_wp2
                go_ret
                exact ⟨_, rfl, rfl, b012.trans (b13.mono s12)⟩
  · by_cases hz1 : (mergeP base a b).2.2 = 0
    · have hq1 : ((mergeP base a b).2.2 != 0) = false := by simp [hz1]
      have hq2 : ((mergeP base b a).2.2 != 0) = true := by simpa using fun e => hz ⟨hz1, e⟩
      clear hz hz1
      go_enter Try.func4, Try.ntmps4
      go_wp2_with fail
      refine (threeMerge v0 v1 v2 base a b _ w h0 h1 h2).mono ?_; rintro e w1 ⟨_, rfl, ⟨x1, y1, rfl, _, _⟩, b1⟩
      have s1 := b1.size
      go_wp2_with fail
      refine (threeMerge v0 v2 v1 base b a _ w1 (h0.call b1) (h2.call b1) (h1.call b1)).mono ?_; rintro e w2 ⟨_, rfl, ⟨x2, y2, rfl, _, _⟩, b2⟩
      have b02 := b1.trans (b2.mono s1)
      have s2 := b02.size
      go_wp2_with fail
      refine (threeMerge v0 v1 v0 base a base _ w2 (h0.call b02) (h1.call b02) (h0.call b02)).mono ?_; rintro e w3 ⟨_, rfl, ⟨x3, y3, rfl, _, _⟩, b3⟩
      have b03 := b02.trans (b3.mono s2)
      have s3 := b03.size
      go_wp2_with fail
      refine (threeMerge v0 v0 v2 base base b _ w3 (h0.call b03) (h0.call b03) (h2.call b03)).mono ?_; rintro e w4 ⟨_, rfl, ⟨x4, y4, rfl, _, _⟩, b4⟩
      have b04 := b03.trans (b4.mono s3)
      have s4 := b04.size
      go_wp2_with fail
      refine (threeMerge v0 v1 v1 base a a _ w4 (h0.call b04) (h1.call b04) (h1.call b04)).mono ?_; rintro e w5 ⟨_, rfl, ⟨x5, y5, rfl, _, _⟩, b5⟩
      have b05 := b04.trans (b5.mono s4)
      have s5 := b05.size
      generalize mergeP base a b = p1 at *
      generalize mergeP base b a = p2 at *
      generalize mergeP base a base = p3 at *
      generalize mergeP base base b = p4 at *
      generalize mergeP base a a = p5 at *
      go_wp2_with fail
      refine (threeBegun w5).mono ?_; rintro e w6 ⟨_, rfl, rfl, b6⟩
      go_wp2
      go_ret
      exact ⟨_, rfl, rfl, b05.trans (b6.mono s5)⟩
    · have hq1 : ((mergeP base a b).2.2 != 0) = true := by simpa using hz1
      clear hz hz1
      go_enter Try.func4, Try.ntmps4
      go_wp2_with fail
      refine (threeMerge v0 v1 v2 base a b _ w h0 h1 h2).mono ?_; rintro e w1 ⟨_, rfl, ⟨x1, y1, rfl, _, _⟩, b1⟩
      have s1 := b1.size
      go_wp2_with fail
      refine (threeMerge v0 v2 v1 base b a _ w1 (h0.call b1) (h2.call b1) (h1.call b1)).mono ?_; rintro e w2 ⟨_, rfl, ⟨x2, y2, rfl, _, _⟩, b2⟩
      have b02 := b1.trans (b2.mono s1)
      have s2 := b02.size
      go_wp2_with fail
      refine (threeMerge v0 v1 v0 base a base _ w2 (h0.call b02) (h1.call b02) (h0.call b02)).mono ?_; rintro e w3 ⟨_, rfl, ⟨x3, y3, rfl, _, _⟩, b3⟩
      have b03 := b02.trans (b3.mono s2)
      have s3 := b03.size
      go_wp2_with fail
      refine (threeMerge v0 v0 v2 base base b _ w3 (h0.call b03) (h0.call b03) (h2.call b03)).mono ?_; rintro e w4 ⟨_, rfl, ⟨x4, y4, rfl, _, _⟩, b4⟩
      have b04 := b03.trans (b4.mono s3)
      have s4 := b04.size
      go_wp2_with fail
      refine (threeMerge v0 v1 v1 base a a _ w4 (h0.call b04) (h1.call b04) (h1.call b04)).mono ?_; rintro e w5 ⟨_, rfl, ⟨x5, y5, rfl, _, _⟩, b5⟩
      have b05 := b04.trans (b5.mono s4)
      have s5 := b05.size
      generalize mergeP base a b = p1 at *
      generalize mergeP base b a = p2 at *
      generalize mergeP base a base = p3 at *
      generalize mergeP base base b = p4 at *
      generalize mergeP base a a = p5 at *
      go_wp2_with fail
      refine (threeBegun w5).mono ?_; rintro e w6 ⟨_, rfl, rfl, b6⟩
      go_wp2
      go_ret
      exact ⟨_, rfl, rfl, b05.trans (b6.mono s5)⟩

end Go.Pch
