/- The walks of the laws RowsTells, RowsPuts, RowsTrue. -/
import Derived.Test.YtdbecbjhgiljoaaRowB
namespace Go.Pch
open Go.RowKit Go.Proofs

set_option maxHeartbeats 400000 in
theorem lawRowsTells (v : Value) (l : List Row) (key : Int) (w : World) (h : Sl tRow w (fun _ => True) v l) (_hk : i64ok key) :
    Calls Try.prog 9 #[v, .int .i64 key] w (Ret w fun r _ => r = .bool true) := by
  go_enter Try.func9, Try.ntmps9
  go_wp2_with fail
  refine (rowsFind v l key _ w h).mono ?_; rintro e w1 ⟨_, rfl, rfl, b1⟩
  have s1 := b1.size
  go_wp2_with fail
  refine (refFindOf v l key _ w1 (h.call b1)).mono ?_; rintro e w2 ⟨rfl, d2⟩
  have b02 := b1.trans (d2.below.mono s1)
  have s2 := b02.size
  generalize findP l key = f at *
  go_wp2_with fail
  refine (rowsBegun w2).mono ?_; rintro e w3 ⟨_, rfl, rfl, b3⟩
  have b03 := b02.trans (b3.mono s2)
  have s3 := b03.size
  go_wp2_with fail
  refine (rowsCheck v l _ w3 (h.call b03)).mono ?_; rintro e w4 ⟨_, rfl, rfl, b4⟩
  have b04 := b03.trans (b4.mono s3)
  go_wp2_with fail
  refine (refRowsError v l _ w4 (h.call b04)).mono ?_; rintro e w5 ⟨rfl, d5⟩
  go_wp2
  go_ret
  exact ⟨_, rfl, rfl, b04.trans (d5.below.mono b04.size)⟩

set_option maxHeartbeats 400000 in
theorem lawRowsPuts (v : Value) (l : List Row) (key val : Int) (w : World) (h : Sl tRow w (fun _ => True) v l) (hk : i64ok key) (hv : i64ok val) :
    Calls Try.prog 10 #[v, .int .i64 key, .int .i64 val] w (Ret w fun r _ => r = .bool true) := by
  go_enter Try.func10, Try.ntmps10
  go_wp2_with fail
  refine (rowsPut v l key val _ w h ⟨hk, hv⟩).mono ?_; rintro e w1 ⟨_, rfl, ⟨x1, rfl, h1⟩, b1⟩
  have s1 := b1.size
  go_wp2_with fail
  refine (refPutOf v l key val _ w1 (h.call b1)).mono ?_; rintro e w2 ⟨_, rfl, ⟨x2, rfl, h2⟩, b2⟩
  have s2 := b2.size
  generalize putP l key val = p at *
  go_wp2_with fail
  refine (rowsBegun w2).mono ?_; rintro e w3 ⟨_, rfl, rfl, b3⟩
  have s3 := b3.size
  go_wp2_with fail
  refine (refSameRows_of (c := true) x1 x2 _ _ _ _ w3 (h1.call (b2.trans (b3.mono s2))) (h2.call b3) (by simp)).mono ?_; rintro e w4 ⟨rfl, d4⟩
  go_wp2
  go_ret
  exact ⟨_, rfl, rfl, ((b1.trans (b2.mono s1)).trans (b3.mono (by omega))).trans (d4.below.mono (by omega))⟩

/-! ### The plain law -/
theorem putP_inv {l X : List Row} {key val : Int} (h : putP l key val = (X, 0)) : rowsErr l = 0 ∧ keyB key = true ∧ valB val = true ∧ X = putL l key val ∧ X.length ≤ 40 := by
  unfold putP at h
  split at h
  · rename_i he
    split at h
    · rename_i hkv
      simp only [Bool.and_eq_true] at hkv
      split at h
      · simp at h
      · rename_i hm
        simp only [Prod.mk.injEq, and_true] at h
        exact ⟨he, hkv.1, hkv.2, h.symm, by rw [← h]; omega⟩
    · simp at h
  · rename_i he
    simp only [Prod.mk.injEq] at h
    exact absurd h.2 he
theorem putL_rise {l : List Row} {key val : Int} (h : riseB (-1) l = true) (hv : valB val = true) : riseB (-1) (putL l key val) = true := by
  refine folded_rise _ fun k => ?_
  simp only [valB, Bool.and_eq_true, decide_eq_true_eq] at hv
  split
  · exact hv
  · exact valueOf_bounds h k
theorem putL_value {l : List Row} {key val : Int} (k : Int) (h0 : 0 ≤ k) (h1 : k ≤ 99) : valueOf (putL l key val) k = if k = key then val else valueOf l k := folded_value _ k h0 h1
theorem putL_eq {l m : List Row} {a b u v : Int} (hl : riseB (-1) l = true) (hm : riseB (-1) m = true) (hu : valB u = true) (hv : valB v = true)
    (h : ∀ k, 0 ≤ k → k ≤ 99 → (if k = a then u else valueOf l k) = if k = b then v else valueOf m k) : putL l a u = putL m b v :=
  rows_ext (putL_rise hl hu) (putL_rise hm hv) fun k h0 h1 => by rw [putL_value k (by omega) h1, putL_value k (by omega) h1]; exact h k (by omega) h1
theorem valB_value {l : List Row} (h : riseB (-1) l = true) (k : Int) : valB (valueOf l k) = true := by
  have := valueOf_bounds h k
  simp only [valB, Bool.and_eq_true, decide_eq_true_eq]
  exact this
theorem putL_back {l : List Row} {a u : Int} (hl : riseB (-1) l = true) (hu : valB u = true) : putL (putL l a u) a (valueOf l a) = l :=
  rows_ext (putL_rise (putL_rise hl hu) (valB_value hl a)) hl fun k h0 h1 => by
    rw [putL_value k (by omega) h1]
    by_cases hk : k = a
    · rw [if_pos hk, hk]
    · rw [if_neg hk, putL_value k (by omega) h1, if_neg hk]
theorem putL_swap {l : List Row} {a u b v : Int} (hl : riseB (-1) l = true) (hu : valB u = true) (hv : valB v = true) (hab : a ≠ b) : putL (putL l a u) b v = putL (putL l b v) a u :=
  putL_eq (putL_rise hl hu) (putL_rise hl hv) hv hu fun k h0 h1 => by
    rw [putL_value k h0 h1, putL_value k h0 h1]
    by_cases hka : k = a
    · rw [if_neg (by omega), if_pos hka, if_pos hka]
    · by_cases hkb : k = b
      · rw [if_pos hkb, if_neg hka, if_pos hkb]
      · rw [if_neg hkb, if_neg hka, if_neg hka, if_neg hkb]

theorem rows_true {l X Y : List Row} {a u b v : Int} (hx : putP l a u = (X, 0)) (hy : putP l b v = (Y, 0)) :
    findP l a = (valueOf l a, 0) ∧ findP X a = (u, 0) ∧ findP l b = (valueOf l b, 0) ∧ (∃ t, findP X b = (t, 0) ∧ (a ≠ b → t = valueOf l b)) ∧ putP X a (valueOf l a) = (l, 0) ∧ (a ≠ b → putP X b v = putP Y a u) ∧ i64ok (valueOf l a) := by
  obtain ⟨he, ka, vu, rfl, hxl⟩ := putP_inv hx
  obtain ⟨_, kb, vv, rfl, hyl⟩ := putP_inv hy
  obtain ⟨h40, hrs⟩ := ok_rise he
  have hX := rowsErr_zero hxl (putL_rise hrs vu)
  have hY := rowsErr_zero hyl (putL_rise hrs vv)
  have ka' : 0 ≤ a ∧ a ≤ 99 := by simpa [keyB] using ka
  have kb' : 0 ≤ b ∧ b ≤ 99 := by simpa [keyB] using kb
  have hbd := valueOf_bounds hrs a
  refine ⟨by rw [findP, if_pos he, if_pos ka], ?_, by rw [findP, if_pos he, if_pos kb], ⟨valueOf (putL l a u) b, by rw [findP, if_pos hX, if_pos kb], fun hab => ?_⟩, ?_, fun hab => ?_, ⟨by omega, by omega⟩⟩
  · rw [findP, if_pos hX, if_pos ka, putL_value a ka'.1 ka'.2, if_pos rfl]
  · rw [putL_value b kb'.1 kb'.2, if_neg (by omega)]
  · have hb := putL_back (a := a) hrs vu
    rw [putP, if_pos hX, if_pos (by simp [ka, valB_value hrs a]), hb, if_neg (by omega)]
  · have hs := putL_swap hrs vu vv hab
    have e1 : putP (putL l a u) b v = if 40 < (putL (putL l a u) b v).length then ([], 2) else (putL (putL l a u) b v, 0) := by rw [putP, if_pos hX, if_pos (by simp [kb, vv])]
    have e2 : putP (putL l b v) a u = if 40 < (putL (putL l b v) a u).length then ([], 2) else (putL (putL l b v) a u, 0) := by rw [putP, if_pos hY, if_pos (by simp [ka, vu])]
    rw [e1, e2, hs]

set_option maxRecDepth 100000 in
set_option maxHeartbeats 2000000 in
theorem lawRowsTrue (vl : Value) (l : List Row) (a u b v : Int) (w : World) (h : Sl tRow w (fun _ => True) vl l) (ha : i64ok a) (hu : i64ok u) (hb : i64ok b) (hv : i64ok v) :
    Calls Try.prog 11 #[vl, .int .i64 a, .int .i64 u, .int .i64 b, .int .i64 v] w (Ret w fun r _ => r = .bool true) := by
  by_cases hx0 : (putP l a u).2 = 0
  · by_cases hy0 : (putP l b v).2 = 0
    · obtain ⟨X, hX⟩ : ∃ X, putP l a u = (X, 0) := ⟨(putP l a u).1, Prod.ext rfl hx0⟩
      obtain ⟨Y, hY⟩ : ∃ Y, putP l b v = (Y, 0) := ⟨(putP l b v).1, Prod.ext rfl hy0⟩
      obtain ⟨f1, f2, f3, ⟨t, f4, f5⟩, f6, f7, f8⟩ := rows_true hX hY
      generalize valueOf l a = was at *
      generalize valueOf l b = one at *
      clear hx0 hy0
      have F5 := keepBack f5
      have F7 := keepBack f7
      clear f5 f7
      go_enter Try.func11, Try.ntmps11
      go_wp2_with fail
      refine (rowsPut_of vl l a u _ w h ⟨ha, hu⟩ hX).mono ?_; rintro e w1 ⟨_, rfl, ⟨x1, rfl, h1⟩, b1⟩
      have s1 := b1.size
      go_wp2_with fail
      refine (rowsPut_of vl l b v _ w1 (h.call b1) ⟨hb, hv⟩ hY).mono ?_; rintro e w2 ⟨_, rfl, ⟨x2, rfl, h2⟩, b2⟩
      have b02 := b1.trans (b2.mono s1)
      have s2 := b02.size
      clear hX hY
      have h12 := h1.call b2
      clear h1
      go_wp2_with fail
      refine (rowsFind_of vl l a _ w2 (h.call b02) f1).mono ?_; rintro e w3 ⟨_, rfl, rfl, b3⟩
      have s3 := b3.size
      go_wp2_with fail
      refine (rowsFind_of x1 X a _ w3 (h12.call b3) f2).mono ?_; rintro e w4 ⟨_, rfl, rfl, b4⟩
      have b24 := b3.trans (b4.mono s3)
      have s4 := b24.size
      go_wp2_with fail
      refine (rowsFind_of vl l b _ w4 ((h.call b02).call b24) f3).mono ?_; rintro e w5 ⟨_, rfl, rfl, b5⟩
      have b25 := b24.trans (b5.mono s4)
      have s5 := b25.size
      go_wp2_with fail
      refine (rowsFind_of x1 X b _ w5 (h12.call b25) f4).mono ?_; rintro e w6 ⟨_, rfl, rfl, b6⟩
      have b26 := b25.trans (b6.mono s5)
      have s6 := b26.size
      clear f1 f2 f3 f4
      go_wp2_with fail
      refine (rowsPut_of x1 X a was _ w6 (h12.call b26) ⟨ha, f8⟩ f6).mono ?_; rintro e w7 ⟨_, rfl, ⟨x7, rfl, h7⟩, b7⟩
      have b27 := b26.trans (b7.mono s6)
      have s7 := b27.size
      have b07 := b02.trans (b27.mono s2)
      clear f6
      by_cases hab : a = b
      · have hq : (a != b) = false := by simp [hab]
        have hq2 : (a == b) = true := by simp [hab]
        clear hab F5 F7
        go_wp2_with fail
        refine (refSameRows_of (c := true) x7 vl l l _ _ w7 h7 (h.call b07) (by simp)).mono ?_; rintro e w8 ⟨rfl, d8⟩
        have b28 := b27.trans (d8.below.mono s7)
        have s8 := b28.size
        go_wp2_with fail
        refine (rowsPut x1 X b v _ w8 (h12.call b28) ⟨hb, hv⟩).mono ?_; rintro e w9 ⟨_, rfl, ⟨x9, rfl, h9⟩, b9⟩
        have b29 := b28.trans (b9.mono s8)
        have s9 := b29.size
        go_wp2_with fail
        refine (rowsPut x2 Y a u _ w9 (h2.call b29) ⟨ha, hu⟩).mono ?_; rintro e w10 ⟨_, rfl, ⟨x10, rfl, h10⟩, b10⟩
        have b210 := b29.trans (b10.mono s9)
        have s10 := b210.size
        go_wp2_with fail
        refine (rowsBegun w10).mono ?_; rintro e w11 ⟨_, rfl, rfl, b11⟩
        go_wp2
        go_ret
        exact ⟨_, rfl, rfl, b02.trans ((b210.trans (b11.mono s10)).mono s2)⟩
      · have hq : (a != b) = true := by simp [hab]
        have hq2 : (a == b) = false := by simp [hab]
        obtain rfl := F5.out hab
        have F77 := F7.out hab
        clear hab F5 F7
        go_wp2_with fail
        refine (refSameRows_of (c := true) x7 vl l l _ _ w7 h7 (h.call b07) (by simp)).mono ?_; rintro e w8 ⟨rfl, d8⟩
        have b28 := b27.trans (d8.below.mono s7)
        have s8 := b28.size
        go_wp2_with fail
        refine (rowsPut x1 X b v _ w8 (h12.call b28) ⟨hb, hv⟩).mono ?_; rintro e w9 ⟨_, rfl, ⟨x9, rfl, h9⟩, b9⟩
        rw [F77] at h9 ⊢
        have b29 := b28.trans (b9.mono s8)
        have s9 := b29.size
        have hP := rowsPut x2 Y a u _ w9 (h2.call b29) ⟨ha, hu⟩
        clear F77
        generalize putP Y a u = p at *
        go_wp2_with fail
        refine hP.mono ?_; rintro e w10 ⟨_, rfl, ⟨x10, rfl, h10⟩, b10⟩
        have b210 := b29.trans (b10.mono s9)
        have s10 := b210.size
        go_wp2_with fail
        refine (rowsBegun w10).mono ?_; rintro e w11 ⟨_, rfl, rfl, b11⟩
        have s11 := b11.size
        go_wp2_with fail
        refine (refSameRows_of (c := true) x9 x10 _ _ _ _ w11 ((h9.call b10).call b11) (h10.call b11) (by simp)).mono ?_; rintro e w12 ⟨rfl, d12⟩
        go_wp2
        go_ret
        exact ⟨_, rfl, rfl, b02.trans (((b210.trans (b11.mono s10)).trans (d12.below.mono (by omega))).mono s2)⟩
    · have hq : ((putP l b v).2 != 0) = true := by simp [hy0]
      have hq0 : ((putP l a u).2 != 0) = false := by simp [hx0]
      go_enter Try.func11, Try.ntmps11
      go_wp2_with fail
      refine (rowsPut vl l a u _ w h ⟨ha, hu⟩).mono ?_; rintro e w1 ⟨_, rfl, ⟨x1, rfl, h1⟩, b1⟩
      have s1 := b1.size
      go_wp2_with fail
      refine (rowsPut vl l b v _ w1 (h.call b1) ⟨hb, hv⟩).mono ?_; rintro e w2 ⟨_, rfl, ⟨x2, rfl, h2⟩, b2⟩
      have b02 := b1.trans (b2.mono s1)
      have s2 := b02.size
      go_wp2_with fail
      refine (rowsBegun w2).mono ?_; rintro e w3 ⟨_, rfl, rfl, b3⟩
      go_wp2
      go_ret
      exact ⟨_, rfl, rfl, b02.trans (b3.mono s2)⟩
  · have hq0 : ((putP l a u).2 != 0) = true := by simp [hx0]
    go_enter Try.func11, Try.ntmps11
    go_wp2_with fail
    refine (rowsPut vl l a u _ w h ⟨ha, hu⟩).mono ?_; rintro e w1 ⟨_, rfl, ⟨x1, rfl, h1⟩, b1⟩
    have s1 := b1.size
    go_wp2_with fail
    refine (rowsPut vl l b v _ w1 (h.call b1) ⟨hb, hv⟩).mono ?_; rintro e w2 ⟨_, rfl, ⟨x2, rfl, h2⟩, b2⟩
    have b02 := b1.trans (b2.mono s1)
    have s2 := b02.size
    go_wp2_with fail
    refine (rowsBegun w2).mono ?_; rintro e w3 ⟨_, rfl, rfl, b3⟩
    go_wp2
    go_ret
    exact ⟨_, rfl, rfl, b02.trans (b3.mono s2)⟩

end Go.Pch
