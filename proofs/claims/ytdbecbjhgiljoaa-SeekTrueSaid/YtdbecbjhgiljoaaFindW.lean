/- The walks of seekBegun and of the laws SeekFinds, SeekRanges, SeekTrue. -/
import Derived.Test.YtdbecbjhgiljoaaFindC
import Derived.Test.YtdbecbjhgiljoaaRowB
import Derived.Test.YtdbecbjhgiljoaaTreeI
namespace Go.Pch
open Go.RowKit Go.Proofs

theorem seekFind_of {c : Int × Int × Int} (v : Value) (t : List (List (List Row))) (key : Int) (S : Blk) (w : World) (h : Sl tRow.slice.slice w S v t) (hl : (flatL t).length ≤ 2000000) (hc : seekP t key = c) :
    Calls Try.prog 42 #[v, .int .i64 key] w (Ret w fun r _ => r = .tuple #[.int .i64 c.1, .int .i64 c.2.1, .int .i64 c.2.2]) := hc ▸ seekFind v t key S w h hl
theorem seekRange_of {c : List Row × Int} (v : Value) (t : List (List (List Row))) (a b : Int) (S : Blk) (w : World) (h : Sl tRow.slice.slice w S v t) (hl : (flatL t).length ≤ 2000000) (hc : rangeP t a b = c) :
    Calls Try.prog 45 #[v, .int .i64 a, .int .i64 b] w (Ret w fun r w' => ∃ x, r = .tuple #[x, .int .i64 c.2] ∧ Sl tRow w' (fun k => w.heap.size ≤ k) x c.1) := hc ▸ seekRange v t a b S w h hl

set_option maxRecDepth 100000 in
set_option maxHeartbeats 2000000 in
theorem seekBegun (w : World) : Calls Try.prog 44 #[] w (Ret w fun r _ => r = .bool true) := by
  have hfl : (flatL treeMany).length ≤ 2000000 := by decide
  go_enter Try.func44, Try.ntmps44
  go_wp2_with fail
  refine (lawMany _).mono ?_; rintro e w1 ⟨v1, rfl, h1, b1⟩
  have s1 := b1.size
  go_wp2_with fail
  refine (treeBuild_of _ _ _ w1 h1 treeMany_is).mono ?_; rintro e w2 ⟨_, rfl, ⟨x2, rfl, h2⟩, b2⟩
  have b02 := b1.trans (b2.mono s1)
  clear h1 b1 s1 b2
  have s2 := b02.size
  go_wp2_with fail
  refine (seekFind_of (c := (3, 2, 0)) _ _ _ _ w2 h2 hfl (by decide)).mono ?_; rintro e w3 ⟨_, rfl, rfl, b3⟩
  have s3 := b3.size
  go_wp2_with fail
  refine (seekFind_of (c := (-1, 2, 0)) _ _ _ _ w3 (h2.call b3) hfl (by decide)).mono ?_; rintro e w4 ⟨_, rfl, rfl, b4⟩
  have b24 := b3.trans (b4.mono s3)
  clear b3 s3 b4
  have s4 := b24.size
  go_wp2_with fail
  refine (seekFind_of (c := (-1, 0, 0)) _ _ _ _ w4 (h2.call b24) hfl (by decide)).mono ?_; rintro e w5 ⟨_, rfl, rfl, b5⟩
  have b25 := b24.trans (b5.mono s4)
  clear b24 s4 b5
  have s5 := b25.size
  go_wp2_with fail
  refine (seekRange_of (c := ([(6, 2), (9, 3), (12, 4)], 0)) _ _ _ _ _ w5 (h2.call b25) hfl (by decide)).mono ?_; rintro e w6 ⟨_, rfl, ⟨x6, rfl, h6⟩, b6⟩
  have b26 := b25.trans (b6.mono s5)
  clear b25 s5 b6
  have s6 := b26.size
  go_wp2_with fail
  refine (seekFind_of (c := (0, 0, 3)) _ _ _ _ w6 (h2.call b26) hfl (by decide)).mono ?_; rintro e w7 ⟨_, rfl, rfl, b7⟩
  have b27 := b26.trans (b7.mono s6)
  have s7 := b27.size
  go_wp2_with fail
  refine (seekRange_of (c := ([], 3)) _ _ _ _ _ w7 (h2.call b27) hfl (by decide)).mono ?_; rintro e w8 ⟨_, rfl, ⟨x8, rfl, _⟩, b8⟩
  have b28 := b27.trans (b8.mono s7)
  have h68 := (h6.call b7).call b8
  obtain ⟨a6, c6, rfl, _, _, _⟩ := h68.shapeAt 3 rfl
  obtain ⟨p2, o2, i2, _, hp2, _, _, q0, q1⟩ := h68.idxRow aRow 0 0 rfl (by decide)
  clear h6 h68 h2 b27 b26 b7 b8
  go_wp2
  go_ret
  exact ⟨_, rfl, rfl, b02.trans (b28.mono s2)⟩

set_option maxHeartbeats 400000 in
theorem lawSeekFinds (v : Value) (t : List (List (List Row))) (key : Int) (w : World) (h : Sl tRow.slice.slice w (fun _ => True) v t) (_hk : i64ok key) (hl : (flatL t).length ≤ 2000000) :
    Calls Try.prog 12 #[v, .int .i64 key] w (Ret w fun r _ => r = .bool true) := by
  go_enter Try.func12, Try.ntmps12
  go_wp2_with fail
  refine (seekFind v t key _ w h hl).mono ?_; rintro e w1 ⟨_, rfl, rfl, b1⟩
  have s1 := b1.size
  go_wp2_with fail
  refine (refSeekOf v t key _ w1 (h.call b1) hl).mono ?_; rintro e w2 ⟨_, rfl, rfl, b2⟩
  have b02 := b1.trans (b2.mono s1)
  have s2 := b02.size
  generalize seekP t key = p at *
  go_wp2_with fail
  refine (seekBegun w2).mono ?_; rintro e w3 ⟨_, rfl, rfl, b3⟩
  go_wp2
  go_ret
  exact ⟨_, rfl, rfl, b02.trans (b3.mono s2)⟩

set_option maxHeartbeats 400000 in
theorem lawSeekRanges (v : Value) (t : List (List (List Row))) (a b : Int) (w : World) (h : Sl tRow.slice.slice w (fun _ => True) v t) (_ha : i64ok a) (_hb : i64ok b) (hl : (flatL t).length ≤ 2000000) :
    Calls Try.prog 13 #[v, .int .i64 a, .int .i64 b] w (Ret w fun r _ => r = .bool true) := by
  go_enter Try.func13, Try.ntmps13
  go_wp2_with fail
  refine (seekRange v t a b _ w h hl).mono ?_; rintro e w1 ⟨_, rfl, ⟨x1, rfl, h1⟩, b1⟩
  have s1 := b1.size
  go_wp2_with fail
  refine (refRangeOf v t a b _ w1 (h.call b1) hl).mono ?_; rintro e w2 ⟨_, rfl, ⟨x2, rfl, h2⟩, b2⟩
  have b02 := b1.trans (b2.mono s1)
  have s2 := b2.size
  generalize rangeP t a b = p at *
  go_wp2_with fail
  refine (seekBegun w2).mono ?_; rintro e w3 ⟨_, rfl, rfl, b3⟩
  have s3 := b3.size
  go_wp2_with fail
  refine (refSameRows_of (c := true) x1 x2 _ _ _ _ w3 ((h1.call b2).call b3) (h2.call b3) (by simp)).mono ?_; rintro e w4 ⟨rfl, d4⟩
  go_wp2
  go_ret
  exact ⟨_, rfl, rfl, (b02.trans (b3.mono (by omega))).trans (d4.below.mono (by omega))⟩

/-! ### The plain law -/
theorem range_none {l : List Row} {a b : Int} (h : ∀ r ∈ l, b < r.1) : rangeL l a b = [] := filter_none fun r hr => by have := h r hr; simp; omega
theorem rangeL_join : ∀ {m : Int} {l : List Row}, riseB m l = true → ∀ {a k b : Int}, a ≤ k → k < b → rangeL l a b = rangeL l a k ++ rangeL l (k + 1) b
  | _, [], _, _, _, _, _, _ => rfl
  | m, r :: l, h, a, k, b, h1, h2 => by
    rw [riseB_cons] at h
    have ih := rangeL_join h.2 h1 h2
    by_cases hr : r.1 ≤ k
    · have e2 : rangeL (r :: l) (k + 1) b = rangeL l (k + 1) b := by rw [rangeL, List.filter_cons, if_neg (by simp; omega)]; rfl
      by_cases ha : a ≤ r.1
      · have e1 : rangeL (r :: l) a k = r :: rangeL l a k := by rw [rangeL, List.filter_cons, if_pos (by simp; omega)]; rfl
        have e3 : rangeL (r :: l) a b = r :: rangeL l a b := by rw [rangeL, List.filter_cons, if_pos (by simp; omega)]; rfl
        rw [e1, e2, e3, ih]; rfl
      · have e1 : rangeL (r :: l) a k = rangeL l a k := by rw [rangeL, List.filter_cons, if_neg (by simp; omega)]; rfl
        have e3 : rangeL (r :: l) a b = rangeL l a b := by rw [rangeL, List.filter_cons, if_neg (by simp; omega)]; rfl
        rw [e1, e2, e3, ih]
    · have hall := rise_all h.2
      have n1 : rangeL l a k = [] := range_none fun q hq => by have := hall q hq; omega
      have n2 : rangeL (r :: l) a k = [] := range_none fun q hq => by
        rcases List.mem_cons.1 hq with rfl | hq
        · omega
        · have := hall q hq; omega
      rw [n1, List.nil_append] at ih
      rw [n2, List.nil_append]
      by_cases hb : r.1 ≤ b
      · have e1 : rangeL (r :: l) a b = r :: rangeL l a b := by rw [rangeL, List.filter_cons, if_pos (by simp; omega)]; rfl
        have e3 : rangeL (r :: l) (k + 1) b = r :: rangeL l (k + 1) b := by rw [rangeL, List.filter_cons, if_pos (by simp; omega)]; rfl
        rw [e1, e3, ih]
      · have e1 : rangeL (r :: l) a b = rangeL l a b := by rw [rangeL, List.filter_cons, if_neg (by simp; omega)]; rfl
        have e3 : rangeL (r :: l) (k + 1) b = rangeL l (k + 1) b := by rw [rangeL, List.filter_cons, if_neg (by simp; omega)]; rfl
        rw [e1, e3, ih]

/-- What Find answers in a tree that was built. -/
theorem seek_built {l : List Row} (h : rowsErr l = 0) (key : Int) :
    (keyB key = false ∧ seekP (treeL l) key = (0, 0, 3) ∧ findP l key = (0, 3)) ∨
    (keyB key = true ∧ findP l key = (valueOf l key, 0) ∧ ((seekP (treeL l) key = (valueOf l key, ((treeL l).length : Int), 0) ∧ 0 < (treeL l).length) ∨ (seekP (treeL l) key = (-1, 0, 0) ∧ valueOf l key = -1))) := by
  have ht := treeErr_tree h
  have hr := (ok_rise h).2
  cases hk : keyB key with
  | false => exact .inl ⟨rfl, by rw [seekP, if_pos ht, if_neg (by simp [hk])], by rw [findP, if_pos h, if_neg (by simp [hk])]⟩
  | true =>
    refine .inr ⟨rfl, by rw [findP, if_pos h, if_pos hk], ?_⟩
    rw [seekP_ok ht hk, flat_tree]
    by_cases hc : l ≠ [] ∧ key ≤ lastK l
    · exact .inl ⟨by rw [if_pos hc], List.length_pos_iff.2 fun e => hc.1 (treeL_none.1 e)⟩
    · refine .inr ?_
      have hv : valueOf l key = -1 := by
        by_cases hl : l = []
        · rw [hl]; rfl
        · refine valueOf_hasnt hr ?_
          have hlt : lastK l < key := by
            rcases Int.lt_or_le (lastK l) key with hlt | hle
            · exact hlt
            · exact absurd ⟨hl, hle⟩ hc
          unfold hasB
          rw [seekN_full.2 fun r hr' => by have := lastK_le hr r hr'; omega, List.getElem?_eq_none (Nat.le_refl _)]
      exact ⟨by rw [if_neg hc, hv], hv⟩

end Go.Pch
