/- The walk of the law SeekTrue. -/
import Derived.Test.YtdbecbjhgiljoaaFindW
import Derived.Test.YtdbecbjhgiljoaaTreeW
namespace Go.Pch
open Go.RowKit Go.Proofs

set_option maxRecDepth 100000 in
set_option maxHeartbeats 2000000 in
/-- What stands behind the test of Find: two ranges side by side are one. -/
theorem lawSeekTrue (v : Value) (l : List Row) (key from' to' : Int) (w : World) (h : Sl tRow w (fun _ => True) v l) (_hk : i64ok key) (_hf : i64ok from') (_ht : i64ok to') :
    Calls Try.prog 14 #[v, .int .i64 key, .int .i64 from', .int .i64 to'] w (Ret w fun r _ => r = .bool true) := by
  by_cases he : rowsErr l = 0
  · have h40 := (ok_rise he).1
    have hbp := buildP_ok he
    have hte := treeErr_tree he
    have hfe := flat_tree l
    have HSB := keepBack (seek_built he key)
    have ht7 := treeL_len h40
    have HJ := keepBack (fun h1 h2 => rangeL_join (ok_rise he).2 (a := from') (k := key) (b := to') h1 h2)
    have HRO := keepBack (fun a b (h : ¬ (a < 0 ∨ b < a ∨ 99 < b)) => rangeP_ok (t := treeL l) (a := a) (b := b) hte h)
    have HRB := keepBack (fun a b (h : (a < 0 ∨ b < a ∨ 99 < b)) => rangeP_bad (t := treeL l) (a := a) (b := b) hte h)
    have hfl : (flatL (treeL l)).length ≤ 2000000 := by rw [hfe]; omega
    rw [hfe] at HRO
    generalize treeL l = t at *
    clear hte hfe
    have hSF := fun v S w h => seekFind v t key S w h hfl
    have hSR := fun v a b S w h => seekRange v t a b S w h hfl
    have hRF := fun v S w h => rowsFind v l key S w h
    rcases HSB.out with ⟨k0, k1, k2⟩ | ⟨k0, k2, ⟨k1, k3⟩ | ⟨k1, k3⟩⟩
    · rw [k1] at hSF
      rw [k2] at hRF
      clear HSB k1 k2
      go_enter Try.func14, Try.ntmps14
      go_wp2_with fail
      refine (treeBuild_of v l _ w h hbp).mono ?_; rintro e w1 ⟨_, rfl, ⟨x1, rfl, h1⟩, b1⟩
      have s1 := b1.size
      obtain ⟨ax, cx, rfl, _, hcx, _⟩ := h1.shape
      unfold maxLen at hcx
      go_wp2_with fail
      refine (hSF _ _ w1 h1).mono ?_; rintro e w2 ⟨_, rfl, rfl, b2⟩
      have s2 := b2.size
      go_wp2_with fail
      refine (hRF _ _ w2 ((h.call b1).call b2)).mono ?_; rintro e w3 ⟨_, rfl, rfl, b3⟩
      have b13 := b2.trans (b3.mono s2)
      have b03 := b1.trans (b13.mono s1)
      have s3 := b03.size
      have h13 := h1.call b13
      clear h1 b2 s2 b3 b13 b1 s1 hSF hRF
      by_cases hbad : from' < 0 ∨ to' < from' ∨ 99 < to'
      · have hbp2 := HRB.out from' to' hbad
        clear hbad
        have hr := hSR (.slice ax t.length cx) from' to' _ w3 h13
        rw [hbp2] at hr
        go_wp2_with fail
        refine hr.mono ?_; rintro e w4 ⟨_, rfl, ⟨x4, rfl, h4⟩, b4⟩
        clear hbp2
        go_wp2_with fail
        refine (seekBegun w4).mono ?_; rintro e w9 ⟨_, rfl, rfl, b9⟩
        go_wp2
        go_ret
        exact ⟨_, rfl, rfl, (b03.trans (b4.mono s3)).trans (b9.mono (by have := b4.size; omega))⟩
      · have hgp2 := HRO.out from' to' hbad
        have g1 : 0 ≤ from' := by omega
        have g2 : to' ≤ 99 := by omega
        clear hbad
        have hr := hSR (.slice ax t.length cx) from' to' _ w3 h13
        rw [hgp2] at hr
        go_wp2_with fail
        refine hr.mono ?_; rintro e w4 ⟨_, rfl, ⟨x4, rfl, h4⟩, b4⟩
        clear hgp2
        by_cases hfk : key < from'
        · go_wp2_with fail
          refine (seekBegun w4).mono ?_; rintro e w9 ⟨_, rfl, rfl, b9⟩
          go_wp2
          go_ret
          exact ⟨_, rfl, rfl, (b03.trans (b4.mono s3)).trans (b9.mono (by have := b4.size; omega))⟩
        · by_cases hkt : to' ≤ key
          · go_wp2_with fail
            refine (seekBegun w4).mono ?_; rintro e w9 ⟨_, rfl, rfl, b9⟩
            go_wp2
            go_ret
            exact ⟨_, rfl, rfl, (b03.trans (b4.mono s3)).trans (b9.mono (by have := b4.size; omega))⟩
          · exfalso
            have : keyB key = true := by simp only [keyB, Bool.and_eq_true, decide_eq_true_eq]; omega
            rw [k0] at this
            cases this
    · rw [k1] at hSF
      rw [k2] at hRF
      have hz : ((t.length : Int) == 0) = false := by simp; intro e; simp [e] at k3
      clear HSB k1 k2
      generalize valueOf l key = u at *
      by_cases hu : u = -1
      · have hqu : (u != -1) = false := by simp [hu]
        clear hu
        go_enter Try.func14, Try.ntmps14
        go_wp2_with fail
        refine (treeBuild_of v l _ w h hbp).mono ?_; rintro e w1 ⟨_, rfl, ⟨x1, rfl, h1⟩, b1⟩
        have s1 := b1.size
        obtain ⟨ax, cx, rfl, _, hcx, _⟩ := h1.shape
        unfold maxLen at hcx
        go_wp2_with fail
        refine (hSF _ _ w1 h1).mono ?_; rintro e w2 ⟨_, rfl, rfl, b2⟩
        have s2 := b2.size
        go_wp2_with fail
        refine (hRF _ _ w2 ((h.call b1).call b2)).mono ?_; rintro e w3 ⟨_, rfl, rfl, b3⟩
        have b13 := b2.trans (b3.mono s2)
        have b03 := b1.trans (b13.mono s1)
        have s3 := b03.size
        have h13 := h1.call b13
        clear h1 b2 s2 b3 b13 b1 s1 hSF hRF
        by_cases hbad : from' < 0 ∨ to' < from' ∨ 99 < to'
        · have hbp2 := HRB.out from' to' hbad
          clear hbad
          have hr := hSR (.slice ax t.length cx) from' to' _ w3 h13
          rw [hbp2] at hr
          go_wp2_with fail
          refine hr.mono ?_; rintro e w4 ⟨_, rfl, ⟨x4, rfl, h4⟩, b4⟩
          clear hbp2
          go_wp2_with fail
          refine (seekBegun w4).mono ?_; rintro e w9 ⟨_, rfl, rfl, b9⟩
          go_wp2
          go_ret
          exact ⟨_, rfl, rfl, (b03.trans (b4.mono s3)).trans (b9.mono (by have := b4.size; omega))⟩
        · have hgp2 := HRO.out from' to' hbad
          have g1 : 0 ≤ from' := by omega
          have g2 : to' ≤ 99 := by omega
          clear hbad
          have hr := hSR (.slice ax t.length cx) from' to' _ w3 h13
          rw [hgp2] at hr
          go_wp2_with fail
          refine hr.mono ?_; rintro e w4 ⟨_, rfl, ⟨x4, rfl, h4⟩, b4⟩
          clear hgp2
          by_cases hfk : key < from'
          · go_wp2_with fail
            refine (seekBegun w4).mono ?_; rintro e w9 ⟨_, rfl, rfl, b9⟩
            go_wp2
            go_ret
            exact ⟨_, rfl, rfl, (b03.trans (b4.mono s3)).trans (b9.mono (by have := b4.size; omega))⟩
          · by_cases hkt : to' ≤ key
            · go_wp2_with fail
              refine (seekBegun w4).mono ?_; rintro e w9 ⟨_, rfl, rfl, b9⟩
              go_wp2
              go_ret
              exact ⟨_, rfl, rfl, (b03.trans (b4.mono s3)).trans (b9.mono (by have := b4.size; omega))⟩
            · have hj := HJ.out (by omega) (by omega)
              rw [hj] at h4
              have hr5 := HRO.out from' key (by omega)
              have hr6 := HRO.out (key + 1) to' (by omega)
              have hl5 := range_len l from' key
              have hl6 := range_len l (key + 1) to'
              have s4 := b4.size
              have hq5 := fun w h => hSR (.slice ax t.length cx) from' key (fun k => True) w h
              have hq6 := fun w h => hSR (.slice ax t.length cx) (key + 1) to' (fun k => True) w h
              rw [hr5] at hq5
              rw [hr6] at hq6
              clear hj hr5 hr6 hSR
              generalize rangeL l from' key = R1 at *
              generalize rangeL l (key + 1) to' = R2 at *
              have hw1 : IntKind.i64.wrap (key + 1) = key + 1 := by rw [IntKind.wrap_i64]; omega
              go_wp2_with fail
              refine (hq5 w4 (h13.call b4).any).mono ?_; rintro e w5 ⟨_, rfl, ⟨x5, rfl, h5⟩, b5⟩
              have s5 := b5.size
              go_wp2_with fail
              refine (hq6 w5 ((h13.call b4).call b5).any).mono ?_; rintro e w6 ⟨_, rfl, ⟨x6, rfl, h6⟩, b6⟩
              have s6 := b6.size
              go_wp2_with fail
              refine (seekBegun w6).mono ?_; rintro e w7 ⟨_, rfl, rfl, b7⟩
              have s7 := b7.size
              have b57 := b6.trans (b7.mono s6)
              have h57 := h5.call b57
              have h67 := h6.call b7
              have h47 := h4.call (b5.trans (b57.mono s5))
              have b07 := (b03.trans (b4.mono s3)).trans ((b5.trans (b57.mono s5)).mono (by omega))
              have s07 := b07.size
              obtain ⟨a5, c5, rfl, _, _, n5⟩ := h57.shape
              obtain ⟨a6, c6, rfl, _, _, n6⟩ := h67.shape
              have hb8 := (Below.refl w7.heap.size w7).alloc (Nat.le_refl _) (.cells #[] 31)
              have hsrc5 := Src.row (D' := fun _ => False) (h57.call hb8).src
              clear h5 h6 h57 h4 h13 hq5 hq6
              go_wp2_with (at_builtin; refine wpList_growG rfl (.tmp 114) (.tmp 115) rfl aRow rfl (Own.made (B := w7.heap.size) (C := fun _ => False) _ (Nat.le_refl _)) rfl rfl hsrc5 n5 (fun _ h => h.elim) (by simp; omega) (by simp) ?_)
              intro v8 w8 ho8 hg8
              have hb78 : Below w7.heap.size w7 w8 := hb8.grown hg8 (by simp) (fun g hg => by simp [Value.ownBlock] at hg; omega)
              have s8 := hb78.size
              have hob8 := ho8.block
              have hsrc6 := Src.row (D' := fun _ => False) (h67.call hb78).src
              obtain ⟨a8, c8, rfl, _, _⟩ := ho8.shape
              go_wp2_with (at_builtin; refine wpList_growG rfl (.tmp 116) (.tmp 117) rfl aRow rfl ho8 rfl rfl hsrc6 n6 (fun _ h => h.elim) (by omega) (by omega) ?_)
              intro v9 w9 ho9 hg9
              have hb79 : Below w7.heap.size w7 w9 := hb78.grown hg9 (by omega) (fun g hg => (hob8 g hg).1)
              have s9 := hb79.size
              have h9 := ho9.sl (D := fun _ => True) (fun _ h => h.elim) (fun _ _ => trivial)
              go_wp2_with fail
              refine (refSameRows_of (c := true) v9 x4 _ _ _ _ w9 h9 (h47.call hb79) (by simp)).mono ?_; rintro e w10 ⟨rfl, d10⟩
              go_wp2
              go_ret
              exact ⟨_, rfl, rfl, (b07.trans (hb79.mono s07)).trans (d10.below.mono (by omega))⟩
      · have hqu : (u != -1) = true := by simp [hu]
        clear hu
        go_enter Try.func14, Try.ntmps14
        go_wp2_with fail
        refine (treeBuild_of v l _ w h hbp).mono ?_; rintro e w1 ⟨_, rfl, ⟨x1, rfl, h1⟩, b1⟩
        have s1 := b1.size
        obtain ⟨ax, cx, rfl, _, hcx, _⟩ := h1.shape
        unfold maxLen at hcx
        go_wp2_with fail
        refine (hSF _ _ w1 h1).mono ?_; rintro e w2 ⟨_, rfl, rfl, b2⟩
        have s2 := b2.size
        go_wp2_with fail
        refine (hRF _ _ w2 ((h.call b1).call b2)).mono ?_; rintro e w3 ⟨_, rfl, rfl, b3⟩
        have b13 := b2.trans (b3.mono s2)
        have b03 := b1.trans (b13.mono s1)
        have s3 := b03.size
        have h13 := h1.call b13
        clear h1 b2 s2 b3 b13 b1 s1 hSF hRF
        by_cases hbad : from' < 0 ∨ to' < from' ∨ 99 < to'
        · have hbp2 := HRB.out from' to' hbad
          clear hbad
          have hr := hSR (.slice ax t.length cx) from' to' _ w3 h13
          rw [hbp2] at hr
          go_wp2_with fail
          refine hr.mono ?_; rintro e w4 ⟨_, rfl, ⟨x4, rfl, h4⟩, b4⟩
          clear hbp2
          go_wp2_with fail
          refine (seekBegun w4).mono ?_; rintro e w9 ⟨_, rfl, rfl, b9⟩
          go_wp2
          go_ret
          exact ⟨_, rfl, rfl, (b03.trans (b4.mono s3)).trans (b9.mono (by have := b4.size; omega))⟩
        · have hgp2 := HRO.out from' to' hbad
          have g1 : 0 ≤ from' := by omega
          have g2 : to' ≤ 99 := by omega
          clear hbad
          have hr := hSR (.slice ax t.length cx) from' to' _ w3 h13
          rw [hgp2] at hr
          go_wp2_with fail
          refine hr.mono ?_; rintro e w4 ⟨_, rfl, ⟨x4, rfl, h4⟩, b4⟩
          clear hgp2
          by_cases hfk : key < from'
          · go_wp2_with fail
            refine (seekBegun w4).mono ?_; rintro e w9 ⟨_, rfl, rfl, b9⟩
            go_wp2
            go_ret
            exact ⟨_, rfl, rfl, (b03.trans (b4.mono s3)).trans (b9.mono (by have := b4.size; omega))⟩
          · by_cases hkt : to' ≤ key
            · go_wp2_with fail
              refine (seekBegun w4).mono ?_; rintro e w9 ⟨_, rfl, rfl, b9⟩
              go_wp2
              go_ret
              exact ⟨_, rfl, rfl, (b03.trans (b4.mono s3)).trans (b9.mono (by have := b4.size; omega))⟩
            · have hj := HJ.out (by omega) (by omega)
              rw [hj] at h4
              have hr5 := HRO.out from' key (by omega)
              have hr6 := HRO.out (key + 1) to' (by omega)
              have hl5 := range_len l from' key
              have hl6 := range_len l (key + 1) to'
              have s4 := b4.size
              have hq5 := fun w h => hSR (.slice ax t.length cx) from' key (fun k => True) w h
              have hq6 := fun w h => hSR (.slice ax t.length cx) (key + 1) to' (fun k => True) w h
              rw [hr5] at hq5
              rw [hr6] at hq6
              clear hj hr5 hr6 hSR
              generalize rangeL l from' key = R1 at *
              generalize rangeL l (key + 1) to' = R2 at *
              have hw1 : IntKind.i64.wrap (key + 1) = key + 1 := by rw [IntKind.wrap_i64]; omega
              go_wp2_with fail
              refine (hq5 w4 (h13.call b4).any).mono ?_; rintro e w5 ⟨_, rfl, ⟨x5, rfl, h5⟩, b5⟩
              have s5 := b5.size
              go_wp2_with fail
              refine (hq6 w5 ((h13.call b4).call b5).any).mono ?_; rintro e w6 ⟨_, rfl, ⟨x6, rfl, h6⟩, b6⟩
              have s6 := b6.size
              go_wp2_with fail
              refine (seekBegun w6).mono ?_; rintro e w7 ⟨_, rfl, rfl, b7⟩
              have s7 := b7.size
              have b57 := b6.trans (b7.mono s6)
              have h57 := h5.call b57
              have h67 := h6.call b7
              have h47 := h4.call (b5.trans (b57.mono s5))
              have b07 := (b03.trans (b4.mono s3)).trans ((b5.trans (b57.mono s5)).mono (by omega))
              have s07 := b07.size
              obtain ⟨a5, c5, rfl, _, _, n5⟩ := h57.shape
              obtain ⟨a6, c6, rfl, _, _, n6⟩ := h67.shape
              have hb8 := (Below.refl w7.heap.size w7).alloc (Nat.le_refl _) (.cells #[] 31)
              have hsrc5 := Src.row (D' := fun _ => False) (h57.call hb8).src
              clear h5 h6 h57 h4 h13 hq5 hq6
              go_wp2_with (at_builtin; refine wpList_growG rfl (.tmp 114) (.tmp 115) rfl aRow rfl (Own.made (B := w7.heap.size) (C := fun _ => False) _ (Nat.le_refl _)) rfl rfl hsrc5 n5 (fun _ h => h.elim) (by simp; omega) (by simp) ?_)
              intro v8 w8 ho8 hg8
              have hb78 : Below w7.heap.size w7 w8 := hb8.grown hg8 (by simp) (fun g hg => by simp [Value.ownBlock] at hg; omega)
              have s8 := hb78.size
              have hob8 := ho8.block
              have hsrc6 := Src.row (D' := fun _ => False) (h67.call hb78).src
              obtain ⟨a8, c8, rfl, _, _⟩ := ho8.shape
              go_wp2_with (at_builtin; refine wpList_growG rfl (.tmp 116) (.tmp 117) rfl aRow rfl ho8 rfl rfl hsrc6 n6 (fun _ h => h.elim) (by omega) (by omega) ?_)
              intro v9 w9 ho9 hg9
              have hb79 : Below w7.heap.size w7 w9 := hb78.grown hg9 (by omega) (fun g hg => (hob8 g hg).1)
              have s9 := hb79.size
              have h9 := ho9.sl (D := fun _ => True) (fun _ h => h.elim) (fun _ _ => trivial)
              go_wp2_with fail
              refine (refSameRows_of (c := true) v9 x4 _ _ _ _ w9 h9 (h47.call hb79) (by simp)).mono ?_; rintro e w10 ⟨rfl, d10⟩
              go_wp2
              go_ret
              exact ⟨_, rfl, rfl, (b07.trans (hb79.mono s07)).trans (d10.below.mono (by omega))⟩
    · rw [k1] at hSF
      rw [k2, k3] at hRF
      clear HSB k1 k2 k3
      go_enter Try.func14, Try.ntmps14
      go_wp2_with fail
      refine (treeBuild_of v l _ w h hbp).mono ?_; rintro e w1 ⟨_, rfl, ⟨x1, rfl, h1⟩, b1⟩
      have s1 := b1.size
      obtain ⟨ax, cx, rfl, _, hcx, _⟩ := h1.shape
      unfold maxLen at hcx
      go_wp2_with fail
      refine (hSF _ _ w1 h1).mono ?_; rintro e w2 ⟨_, rfl, rfl, b2⟩
      have s2 := b2.size
      go_wp2_with fail
      refine (hRF _ _ w2 ((h.call b1).call b2)).mono ?_; rintro e w3 ⟨_, rfl, rfl, b3⟩
      have b13 := b2.trans (b3.mono s2)
      have b03 := b1.trans (b13.mono s1)
      have s3 := b03.size
      have h13 := h1.call b13
      clear h1 b2 s2 b3 b13 b1 s1 hSF hRF
      by_cases hbad : from' < 0 ∨ to' < from' ∨ 99 < to'
      · have hbp2 := HRB.out from' to' hbad
        clear hbad
        have hr := hSR (.slice ax t.length cx) from' to' _ w3 h13
        rw [hbp2] at hr
        go_wp2_with fail
        refine hr.mono ?_; rintro e w4 ⟨_, rfl, ⟨x4, rfl, h4⟩, b4⟩
        clear hbp2
        go_wp2_with fail
        refine (seekBegun w4).mono ?_; rintro e w9 ⟨_, rfl, rfl, b9⟩
        go_wp2
        go_ret
        exact ⟨_, rfl, rfl, (b03.trans (b4.mono s3)).trans (b9.mono (by have := b4.size; omega))⟩
      · have hgp2 := HRO.out from' to' hbad
        have g1 : 0 ≤ from' := by omega
        have g2 : to' ≤ 99 := by omega
        clear hbad
        have hr := hSR (.slice ax t.length cx) from' to' _ w3 h13
        rw [hgp2] at hr
        go_wp2_with fail
        refine hr.mono ?_; rintro e w4 ⟨_, rfl, ⟨x4, rfl, h4⟩, b4⟩
        clear hgp2
        by_cases hfk : key < from'
        · go_wp2_with fail
          refine (seekBegun w4).mono ?_; rintro e w9 ⟨_, rfl, rfl, b9⟩
          go_wp2
          go_ret
          exact ⟨_, rfl, rfl, (b03.trans (b4.mono s3)).trans (b9.mono (by have := b4.size; omega))⟩
        · by_cases hkt : to' ≤ key
          · go_wp2_with fail
            refine (seekBegun w4).mono ?_; rintro e w9 ⟨_, rfl, rfl, b9⟩
            go_wp2
            go_ret
            exact ⟨_, rfl, rfl, (b03.trans (b4.mono s3)).trans (b9.mono (by have := b4.size; omega))⟩
          · have hj := HJ.out (by omega) (by omega)
            rw [hj] at h4
            have hr5 := HRO.out from' key (by omega)
            have hr6 := HRO.out (key + 1) to' (by omega)
            have hl5 := range_len l from' key
            have hl6 := range_len l (key + 1) to'
            have s4 := b4.size
            have hq5 := fun w h => hSR (.slice ax t.length cx) from' key (fun k => True) w h
            have hq6 := fun w h => hSR (.slice ax t.length cx) (key + 1) to' (fun k => True) w h
            rw [hr5] at hq5
            rw [hr6] at hq6
            clear hj hr5 hr6 hSR
            generalize rangeL l from' key = R1 at *
            generalize rangeL l (key + 1) to' = R2 at *
            have hw1 : IntKind.i64.wrap (key + 1) = key + 1 := by rw [IntKind.wrap_i64]; omega
            go_wp2_with fail
            refine (hq5 w4 (h13.call b4).any).mono ?_; rintro e w5 ⟨_, rfl, ⟨x5, rfl, h5⟩, b5⟩
            have s5 := b5.size
            go_wp2_with fail
            refine (hq6 w5 ((h13.call b4).call b5).any).mono ?_; rintro e w6 ⟨_, rfl, ⟨x6, rfl, h6⟩, b6⟩
            have s6 := b6.size
            go_wp2_with fail
            refine (seekBegun w6).mono ?_; rintro e w7 ⟨_, rfl, rfl, b7⟩
            have s7 := b7.size
            have b57 := b6.trans (b7.mono s6)
            have h57 := h5.call b57
            have h67 := h6.call b7
            have h47 := h4.call (b5.trans (b57.mono s5))
            have b07 := (b03.trans (b4.mono s3)).trans ((b5.trans (b57.mono s5)).mono (by omega))
            have s07 := b07.size
            obtain ⟨a5, c5, rfl, _, _, n5⟩ := h57.shape
            obtain ⟨a6, c6, rfl, _, _, n6⟩ := h67.shape
            have hb8 := (Below.refl w7.heap.size w7).alloc (Nat.le_refl _) (.cells #[] 31)
            have hsrc5 := Src.row (D' := fun _ => False) (h57.call hb8).src
            clear h5 h6 h57 h4 h13 hq5 hq6
            go_wp2_with (at_builtin; refine wpList_growG rfl (.tmp 114) (.tmp 115) rfl aRow rfl (Own.made (B := w7.heap.size) (C := fun _ => False) _ (Nat.le_refl _)) rfl rfl hsrc5 n5 (fun _ h => h.elim) (by simp; omega) (by simp) ?_)
            intro v8 w8 ho8 hg8
            have hb78 : Below w7.heap.size w7 w8 := hb8.grown hg8 (by simp) (fun g hg => by simp [Value.ownBlock] at hg; omega)
            have s8 := hb78.size
            have hob8 := ho8.block
            have hsrc6 := Src.row (D' := fun _ => False) (h67.call hb78).src
            obtain ⟨a8, c8, rfl, _, _⟩ := ho8.shape
            go_wp2_with (at_builtin; refine wpList_growG rfl (.tmp 116) (.tmp 117) rfl aRow rfl ho8 rfl rfl hsrc6 n6 (fun _ h => h.elim) (by omega) (by omega) ?_)
            intro v9 w9 ho9 hg9
            have hb79 : Below w7.heap.size w7 w9 := hb78.grown hg9 (by omega) (fun g hg => (hob8 g hg).1)
            have s9 := hb79.size
            have h9 := ho9.sl (D := fun _ => True) (fun _ h => h.elim) (fun _ _ => trivial)
            go_wp2_with fail
            refine (refSameRows_of (c := true) v9 x4 _ _ _ _ w9 h9 (h47.call hb79) (by simp)).mono ?_; rintro e w10 ⟨rfl, d10⟩
            go_wp2
            go_ret
            exact ⟨_, rfl, rfl, (b07.trans (hb79.mono s07)).trans (d10.below.mono (by omega))⟩
  · have hP : (buildP l).2 = rowsErr l := by rw [buildP, if_neg he]
    have he' : ((buildP l).2 != 0) = true := by rw [hP]; simp [he]
    clear he hP
    go_enter Try.func14, Try.ntmps14
    go_wp2_with fail
    refine (treeBuild v l _ w h).mono ?_; rintro e w1 ⟨_, rfl, ⟨x1, rfl, hx1⟩, b1⟩
    go_wp2_with fail
    refine (seekBegun w1).mono ?_; rintro e w2 ⟨_, rfl, rfl, b2⟩
    go_wp2
    go_ret
    exact ⟨_, rfl, rfl, b1.trans (b2.mono b1.size)⟩

end Go.Pch
