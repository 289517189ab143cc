/- The walks of the laws TreeBuilds and TreeTrue. -/
import Derived.Test.YtdbecbjhgiljoaaTreeI
import Derived.Test.YtdbecbjhgiljoaaTreeR
namespace Go.Pch
open Go.RowKit Go.Proofs

set_option maxHeartbeats 400000 in
theorem lawTreeBuilds (v : Value) (l : List Row) (w : World) (h : Sl tRow w (fun _ => True) v l) :
    Calls Try.prog 6 #[v] w (Ret w fun r _ => r = .bool true) := by
  go_enter Try.func6, Try.ntmps6
  go_wp2_with fail
  refine (treeBuild v l _ w h).mono ?_; rintro e w1 ⟨_, rfl, ⟨x1, rfl, h1⟩, b1⟩
  go_wp2_with fail
  refine (refBuildOf v l _ w1 (h.call b1)).mono ?_; rintro e w2 ⟨_, rfl, ⟨x2, rfl, h2⟩, b2⟩
  go_wp2_with fail
  refine (treeBegun w2).mono ?_; rintro e w3 ⟨_, rfl, rfl, b3⟩
  have s1 := b1.size
  have s2 := b2.size
  go_wp2_with fail
  refine (refSameTrees_of (c := true) x1 x2 _ _ _ _ w3 (h1.call (b2.trans (b3.mono (by omega)))) (h2.call b3) (by simp)).mono ?_; rintro e w4 ⟨rfl, d4⟩
  go_wp2
  go_ret
  exact ⟨_, rfl, rfl, ((b1.trans (b2.mono (by omega))).trans (b3.mono (by omega))).trans (d4.below.mono (by have := b3.size; omega))⟩

theorem buildP_ok {l : List Row} (h : rowsErr l = 0) : buildP l = (treeL l, 0) := by rw [buildP, if_pos h]
theorem treeRows_tree {l : List Row} (h : rowsErr l = 0) : treeRows (treeL l) = (l, 0) := by rw [treeRows, if_pos (treeErr_tree h), flat_tree]

set_option maxRecDepth 100000 in
set_option maxHeartbeats 2000000 in
theorem lawTreeTrue (v : Value) (l : List Row) (n : Int) (w : World) (h : Sl tRow w (fun _ => True) v l) (hn : i64ok n) :
    Calls Try.prog 8 #[v, .int .i64 n] w (Ret w fun r _ => r = .bool true) := by
  by_cases he : rowsErr l = 0
  · have h40 := (ok_rise he).1
    obtain ⟨ao, cap, rfl, hcap, hmax, hnil⟩ := h.shape
    unfold maxLen at hmax
    have hbp := buildP_ok he
    have hrw := treeRows_tree he
    have hck := treeErr_tree he
    have hflen : (flatL (treeL l)).length ≤ 2000000 := by rw [flat_tree]; omega
    have ht7 := treeL_len h40
    have hnone := treeL_none (l := l)
    have HTW := keepBack (fun i x => treeN_wide i 0 l x)
    have htw : treeN 0 l = treeL l := rfl
    rw [htw] at HTW
    clear htw
    have HTL := keepBack (fun (i : Nat) x y => treeL_tells (l := l) he (i := i) (x := x) (y := y))
    have HLS := keepBack (fun hl => treeL_last (l := l) he hl)
    generalize treeL l = t at *
    go_enter Try.func8, Try.ntmps8
    go_wp2_with fail
    refine (treeBuild_of _ l _ w h hbp).mono ?_; rintro e w1 ⟨_, rfl, ⟨x1, rfl, h1⟩, b1⟩
    have s1 := b1.size
    obtain ⟨ax, cx, rfl, _, hcx, _⟩ := h1.shape
    unfold maxLen at hcx
    go_wp2_with fail
    refine (treeRows_of _ t _ w1 h1 hflen hrw).mono ?_; rintro e w2 ⟨_, rfl, ⟨x2, rfl, h2⟩, b2⟩
    have s2 := b2.size
    go_wp2_with fail
    refine (treeBuild_of _ l _ w2 h2 hbp).mono ?_; rintro e w3 ⟨_, rfl, ⟨x3, rfl, h3⟩, b3⟩
    have s3 := b3.size
    go_wp2_with fail
    refine (treeCheck_of _ t _ w3 ((h1.call b2).call b3) hflen hck).mono ?_; rintro e w4 ⟨_, rfl, rfl, b4⟩
    have s4 := b4.size
    have b14 := (b2.trans (b3.mono s2)).trans (b4.mono (by omega))
    go_wp2_with fail
    refine (refSameRows_of (c := true) x2 _ l l _ _ w4 ((h2.call b3).call b4) ((h.call b1).call b14) (by simp)).mono ?_; rintro e w5 ⟨rfl, d5⟩
    have s5 := d5.below.size
    go_wp2_with fail
    refine (refSameTrees_of (c := true) _ x3 t t _ _ w5 ((h1.call b14).call d5.below) ((h3.call b4).call d5.below) (by simp)).mono ?_; rintro e w6 ⟨rfl, d6⟩
    have s6 := d6.below.size
    have b16 := (b14.trans (d5.below.mono (by omega))).trans (d6.below.mono (by omega))
    have b06 := b1.trans (b16.mono s1)
    have h16 := h1.call b16
    clear hbp hrw hck hflen
    by_cases ht : t = []
    · have hz : ((t.length : Int) == 0) = true := by simp [ht]
      have hz2 : ((l.length : Int) == 0) = true := by simp [hnone.1 ht]
      clear ht HLS hnone
      go_wp2_with fail
      refine (treeBegun w6).mono ?_; rintro e w7 ⟨_, rfl, rfl, b7⟩
      go_wp2
      go_ret
      exact ⟨_, rfl, rfl, b06.trans (b7.mono (by omega))⟩
    · have hz : ((t.length : Int) == 0) = false := by simp; exact ht
      have hz2 : ((l.length : Int) == 0) = false := by simp; intro e; exact ht (hnone.2 e)
      have htp : 0 < t.length := List.length_pos_iff.2 ht
      obtain ⟨init, c, hX, hc0, hcf⟩ := HLS.out (fun e => ht (hnone.2 e))
      have hlen : t.length = init.length + 1 := by rw [hX]; simp
      have hget : t[t.length - 1]? = some [c] := by rw [hX]; simp
      obtain ⟨b, o, a2, c2, hix, _, hbs, hsx, hc2, hcm2, hc00⟩ := h16.idxSlAt aTree ((t.length : Int) - 1) (t.length - 1) [c] 1 (by omega) hget rfl
      clear hX hlen hget HLS hnone ht
      obtain ⟨e0, e1⟩ := choose_bounds (c := n) (n := (t.length : Int)) (by omega)
      obtain ⟨k, hk⟩ : ∃ a : Nat, chooseL n (t.length : Int) = a := ⟨(chooseL n (t.length : Int)).toNat, by omega⟩
      rw [hk] at e0 e1
      have hklt : k < t.length := by omega
      go_wp2_with fail
      refine (lawChoose n (t.length : Int) w6 hn (by omega) (by omega)).mono ?_; rintro e w' ⟨rfl, rfl⟩
      rw [hk]
      clear hk e0 e1
      by_cases hk0 : k = 0
      · subst hk0
        go_wp2_with fail
        refine (treeBegun w6).mono ?_; rintro e w7 ⟨_, rfl, rfl, b7⟩
        go_wp2
        go_ret
        exact ⟨_, rfl, rfl, b06.trans (b7.mono (by omega))⟩
      · have hk0' : (((k : Nat) : Int) == 0) = false := by simp; omega
        have hkp : 1 ≤ k := by omega
        clear hk0
        obtain ⟨Y, hY⟩ : ∃ Y, t[k]? = some Y := ⟨t[k], List.getElem?_eq_getElem hklt⟩
        obtain ⟨X, hX⟩ : ∃ X, t[k - 1]? = some X := ⟨t[k - 1], List.getElem?_eq_getElem (by omega)⟩
        obtain ⟨hYX, hXc⟩ := HTL.out (k - 1) X Y hX (by rw [show k - 1 + 1 = k by omega]; exact hY)
        have hXl : X.length = Y.flatten.length := by rw [hYX, List.length_map]
        obtain ⟨p1, q1, aY, cY, ixY, _, hpY, hsY, hcY, hmY, clY⟩ := h16.idxSlAt aTree k k Y Y.length rfl hY rfl
        obtain ⟨p2, q2, aX, cX, ixX, _, hpX, hsX, hcX, hmX, clX⟩ := h16.idxSlAt aTree ((k : Int) - 1) (k - 1) X X.length (by omega) hX rfl
        have HYX := keepBack hYX
        have HXC := keepBack hXc
        have hF : Y.flatten.length ≤ 2000000 := by have := HTW.out (k - 1) X hX; omega
        have hk7 : k ≤ 7 := by omega
        have HF := keepBack hF
        clear hY hX hYX hXc hXl hF HTL
        unfold maxLen at hmY hmX
        obtain ⟨wo, rfl⟩ : ∃ wo : World, wo = w6 := ⟨_, rfl⟩
        go_wp2
        go_loopw [12, 13] (fun told i wr => ∃ j : Nat, j ≤ Y.length ∧ i = .int .i64 j ∧ Below wo.heap.size wo wr ∧ Own tRow 31 wr wo.heap.size (fun _ => False) told (Y.take j).flatten) (fun _ i _ => Y.length - (intOf i).toNat)
        case atStart => exact ⟨0, Nat.zero_le _, rfl, Below.refl _ _, .nil⟩
        case round =>
          obtain ⟨j, hj, rfl, hb, ho⟩ := hrel
          have hs := hb.size
          have clY' := (hb.cell (p := ⟨p1, q1, none⟩) hpY).trans clY
          by_cases hlt : j < Y.length
          · obtain ⟨ck, hck⟩ : ∃ ck, Y[j]? = some ck := ⟨Y[j], List.getElem?_eq_getElem hlt⟩
            obtain ⟨b3, o3, a3, c3, hix3, _, hbs3, hsk, hc3, hcm3, hc03⟩ := hsY.idxSlAt aLev j j ck ck.length rfl hck rfl
            have hcell3 := (hb.cell (p := ⟨b3, o3, none⟩) hbs3).trans hc03
            have hsucc := flatten_take_succ hck
            have hle : (Y.take (j + 1)).flatten.length ≤ 2000000 := Nat.le_trans (flatten_take_le Y (j + 1)) HF.out
            rw [hsucc, List.length_append] at hle
            have HSU := keepBack hsucc
            have hsrc := Src.row (D' := fun _ => False) (hsk.call hb).src
            have hn2 := hsk.noAddr
            clear hck hsucc
            generalize (Y.take j).flatten = G at *
            obtain ⟨ag, cg, rfl, _, _⟩ := ho.shape
            go_wp2_with (at_builtin; refine wpList_grow rfl (.tmp 101) (.tmp 108) rfl aRow rfl ho rfl rfl hsrc hn2 (fun _ h => h.elim) (by omega) (by omega) ?_)
            intro v2 w2 ho2 hg2
            have hb2 := hb.grown hg2 (by omega) (fun g hg => (ho.block g hg).1)
            go_wp2
            go_roundw
            case rel => exact ⟨j + 1, by omega, by go_num, hb2, by rw [HSU.out]; exact ho2⟩
            case measure => simp [intOf]; omega
          · obtain rfl : j = Y.length := by omega
            rw [List.take_length, HYX.out] at ho
            have hall := ho.sl (D := fun k => wo.heap.size ≤ k) (fun _ h => h.elim) (fun _ h => h)
            obtain ⟨at', ct, rfl, hct, hmt, _⟩ := hall.shapeAt X.length (by simp)
            have clX' := (hb.cell (p := ⟨p2, q2, none⟩) hpX).trans clX
            have hal := hall.old
            have hXX := hsX.call hb
            clear hall ho hsX hsY
            unfold maxLen at hmt
            have hkk : IntKind.i64.wrap ((k : Int) - 1) = (k : Int) - 1 := by rw [IntKind.wrap_i64]; omega
            obtain ⟨wm, rfl⟩ : ∃ wm : World, wm = wr := ⟨_, rfl⟩
            go_wp2_with fail
            go_loopw [14] (fun i wr => ∃ j : Nat, j ≤ X.length ∧ i = .int .i64 j ∧ Below wm.heap.size wm wr) (fun i _ => X.length - (intOf i).toNat)
            case atStart => exact ⟨0, Nat.zero_le _, rfl, Below.refl _ _⟩
            case round =>
              obtain ⟨j, hj, rfl, hb2⟩ := hrel
              have hs2 := hb2.size
              have clX2 := (hb2.cell (p := ⟨p2, q2, none⟩) (show p2 < wm.heap.size by omega)).trans clX'
              by_cases hlt : j < X.length
              · obtain ⟨ck, hck⟩ : ∃ ck, X[j]? = some ck := ⟨X[j], List.getElem?_eq_getElem hlt⟩
                obtain ⟨z1, z2⟩ := HXC.out ck (List.mem_of_getElem? hck)
                have hcl := List.length_pos_iff.2 z1
                obtain ⟨b3, o3, a3, c3, hix3, _, hbs3, hsk, hc3, hcm3, hc03⟩ := hXX.idxSlAt aLev j j ck ck.length rfl hck rfl
                have hcell3 := (hb2.cell (p := ⟨b3, o3, none⟩) hbs3).trans hc03
                have hsum : sumOfL ck = (sumL ck, 0) := by rw [sumOfL, if_pos z2]
                have hq0 : ((ck.length : Int) == 0) = false := by simp; exact z1
                unfold maxLen at hcm3
                have hrow : (X.map tell)[j]? = some (ck[ck.length - 1].1, sumL ck) := by rw [List.getElem?_map, hck, Option.map_some, tell_at hcl]
                obtain ⟨b4, o4, hix4, _, hb4, k1, k2, cl4, cl5⟩ := hal.idxRow aRow j j rfl (by simpa using hlt)
                obtain ⟨b5, o5, hix5, _, hb5, k3, k4, cl6, cl7⟩ := hsk.idxRow aRow ((ck.length : Int) - 1) (ck.length - 1) (by omega) (by omega)
                rw [(List.getElem?_eq_some_iff.1 hrow).2] at cl4 cl5
                generalize ck[ck.length - 1] = r at *
                have hwr : IntKind.i64.wrap ((ck.length : Int) - 1) = (ck.length : Int) - 1 := by rw [IntKind.wrap_i64]; omega
                clear hck hrow z1 k1 k2 k3 k4
                go_wp2_with fail
                refine (chunkSum_of _ ck _ wr (hsk.call hb2) hsum).mono ?_; rintro e w8 ⟨_, rfl, rfl, b8⟩
                have s8 := b8.size
                have hb8 := hb2.trans (b8.mono hs2)
                have cl4' := (hb8.cell (p := ⟨b4, o4, none⟩) hb4).trans cl4
                have cl5' := (hb8.cell (p := ⟨b4, o4 + 1, none⟩) hb4).trans cl5
                have cl6' := (hb8.cell (p := ⟨b5, o5, none⟩) hb5).trans cl6
                clear hsum
                generalize sumL ck = s at *
                go_wp2
                go_quiet (fail)
                go_wp2
                go_roundw
                case rel => exact ⟨j + 1, by omega, by go_num, below_drewN hb8 _⟩
                case measure => simp [intOf]; omega
              · obtain rfl : j = X.length := by omega
                go_wp2_with fail
                refine (treeBegun wr).mono ?_; rintro e w9 ⟨_, rfl, rfl, b9⟩
                go_wp2
                go_ret
                exact ⟨_, rfl, rfl, ((b06.trans (hb.mono (by omega))).trans (hb2.mono (by omega))).trans (b9.mono (by omega))⟩
  · have hP : (buildP l).2 = rowsErr l := by rw [buildP, if_neg he]
    have he' : ((buildP l).2 != 0) = true := by rw [hP]; simp [he]
    clear he hP
    go_enter Try.func8, Try.ntmps8
    go_wp2_with fail
    refine (treeBuild v l _ w h).mono ?_; rintro e w1 ⟨_, rfl, ⟨x1, rfl, hx1⟩, b1⟩
    go_wp2_with fail
    refine (treeBegun w1).mono ?_; rintro e w2 ⟨_, rfl, rfl, b2⟩
    go_wp2
    go_ret
    exact ⟨_, rfl, rfl, b1.trans (b2.mono b1.size)⟩

end Go.Pch
