/- The walk of DagTrue. -/
import Derived.Test.YtklgejafblocjaaDagL
import Derived.Test.YtklgejafblocjaaDagP
namespace Go.Pch
open Go.RowKit Go.Proofs

theorem choose_nat (c : Int) {n : Nat} (h : 0 < n) : ∃ k : Nat, chooseL c (n : Int) = k ∧ k < n := by
  obtain ⟨h0, h1⟩ := choose_bounds (c := c) (n := (n : Int)) (by omega)
  exact ⟨(chooseL c n).toNat, by omega, by omega⟩

set_option maxRecDepth 100000 in
set_option maxHeartbeats 2000000 in
theorem lawDagTrue (v : Value) (l : List Commit) (a b n : Int) (w : World) (h : Sl tCommit w (fun _ => True) v l) (ha : i64ok a) (hb : i64ok b) (hn : i64ok n) :
    Calls Try.prog 5 #[v, .int .i64 a, .int .i64 b, .int .i64 n] w (Ret w fun r _ => r = .bool true) := by
  have hv := h
  obtain ⟨ao, cap, rfl, hcap, hmax, hnil⟩ := h.shape
  unfold maxLen at hmax
  by_cases he : commitsErr l = 0
  · have hok := dag_ok he
    have h14 := hok.1
    by_cases hl0 : l.length = 0
    · have hz : ((l.length : Int) == 0) = true := by simp [hl0]
      clear hl0
      go_enter Try.func5, Try.ntmps5
      go_wp2_with fail
      refine (dagCheck_of _ l _ w hv he).mono ?_; rintro e w1 ⟨_, rfl, rfl, b1⟩
      go_wp2_with fail
      refine (dagBegun w1).mono ?_; rintro e w2 ⟨_, rfl, rfl, b2⟩
      go_wp2
      go_ret
      exact ⟨_, rfl, rfl, b1.trans (b2.mono b1.size)⟩
    · have hz : ((l.length : Int) == 0) = false := by simp; intro e; simp [e] at hl0
      have hlp : 0 < l.length := by omega
      obtain ⟨p, hp, hpl⟩ := choose_nat a hlp
      obtain ⟨q, hq, hql⟩ := choose_nat b hlp
      obtain ⟨r, hr, hrl⟩ := choose_nat n hlp
      have Hp := keepBack hp
      have Hq := keepBack hq
      have Hr := keepBack hr
      clear hl0 hp hq hr
      have te : ∀ k : Nat, k < l.length → thereErr l (k : Int) = 0 := fun k hk => by
        rw [thereErr, if_neg (by simpa using he), if_pos]
        simp; omega
      have TA := keepBack (fun (k : Nat) (hk : k < l.length) => show aboveP l (k : Int) = (aboveL l k, 0) by rw [aboveP, if_pos (te k hk), Int.toNat_natCast])
      have TB := keepBack (show basesP l p q = (basesL l p q, 0) by rw [basesP, if_pos (by rw [thereAll_two, if_neg (by simpa using te p hpl), te q hql]), Int.toNat_natCast, Int.toNat_natCast])
      have HE := keepBack he
      clear te he
      go_enter Try.func5, Try.ntmps5
      go_wp2_with fail
      refine (dagCheck_of _ l _ w hv HE.out).mono ?_; rintro e w1 ⟨_, rfl, rfl, b1⟩
      go_wp2_with fail
      refine (lawChoose a (l.length : Int) w1 ha (by omega) (by omega)).mono ?_; rintro e w' ⟨rfl, rfl⟩
      rw [Hp.out]
      go_wp2_with fail
      refine (lawChoose b (l.length : Int) w1 hb (by omega) (by omega)).mono ?_; rintro e w' ⟨rfl, rfl⟩
      rw [Hq.out]
      go_wp2_with fail
      refine (lawChoose n (l.length : Int) w1 hn (by omega) (by omega)).mono ?_; rintro e w' ⟨rfl, rfl⟩
      rw [Hr.out]
      go_wp2_with fail
      refine (dagAbove_of _ l p _ w1 (hv.call b1) (by constructor <;> omega) (TA.out p hpl)).mono ?_; rintro e w2 ⟨_, rfl, ⟨x, rfl, hx⟩, b2⟩
      have c2 := b1.trans (b2.mono b1.size)
      go_wp2_with fail
      refine (dagAbove_of _ l q _ w2 (hv.call c2) (by constructor <;> omega) (TA.out q hql)).mono ?_; rintro e w3 ⟨_, rfl, ⟨y, rfl, hy⟩, b3⟩
      have c3 := c2.trans (b3.mono c2.size)
      go_wp2_with fail
      refine (dagAbove_of _ l r _ w3 (hv.call c3) (by constructor <;> omega) (TA.out r hrl)).mono ?_; rintro e w4 ⟨_, rfl, ⟨z, rfl, hz'⟩, b4⟩
      have c4 := c3.trans (b4.mono c3.size)
      go_wp2_with fail
      refine (dagBases_of _ l p q _ w4 (hv.call c4) (by constructor <;> omega) (by constructor <;> omega) TB.out).mono ?_; rintro e w5 ⟨_, rfl, ⟨bs, rfl, hbs⟩, b5⟩
      have c5 := c4.trans (b5.mono c4.size)
      have X := ((hx.call b3).call b4).call b5
      have Y := (hy.call b4).call b5
      have Z := hz'.call b5
      clear hx hy hz'
      obtain ⟨ax, cx, rfl, x1, x2, _⟩ := X.shapeAt l.length (aboveL_length l p)
      obtain ⟨ay, cy, rfl, y1, y2, _⟩ := Y.shapeAt l.length (aboveL_length l q)
      obtain ⟨az, cz, rfl, z1, z2, _⟩ := Z.shapeAt l.length (aboveL_length l r)
      obtain ⟨ab', cb, rfl, bb1, bb2, _⟩ := hbs.shape
      obtain ⟨gx, ox, hixp, _, _, hcxp⟩ := X.idxBool aBool p p rfl (by rw [aboveL_length]; exact hpl)
      rw [aboveL_get, ab_self hok] at hcxp
      clear b2 b3 b4 b5 c2 c3 c4
      go_wp2_with fail
      go_loopw [20] (fun i wr => ∃ (m : Nat), m ≤ l.length ∧ i = .int .i64 m ∧ wr = w5) (fun i _ => l.length - (intOf i).toNat)
      case atStart => exact ⟨0, Nat.zero_le _, rfl, rfl⟩
      case round =>
        obtain ⟨m, hm, rfl, hw⟩ := hrel
        obtain rfl : w5 = wr := hw.symm
        by_cases hlt : m < l.length
        · obtain ⟨g1, o1, hix1, _, _, hc1⟩ := X.idxBool aBool m m rfl (by rw [aboveL_length]; exact hlt)
          obtain ⟨g2, o2, hix2, _, _, hc2⟩ := X.idxBool aBool r r rfl (by rw [aboveL_length]; exact hrl)
          obtain ⟨g3, o3, hix3, _, _, hc3⟩ := Z.idxBool aBool m m rfl (by rw [aboveL_length]; exact hlt)
          rw [aboveL_get] at hc1 hc2 hc3
          cases hz : ab l r m with
          | false =>
            rw [hz] at hc3
            go_wp2_with fail
            go_roundw
            case rel => exact ⟨m + 1, by omega, by go_num, by trivial⟩
            case measure => simp [intOf]; omega
          | true =>
            have hle := ab_le hok r m hz
            rw [hz] at hc3
            cases hxr : ab l p r with
            | false =>
              rw [hxr] at hc2
              go_wp2_with fail
              go_roundw
              case rel => exact ⟨m + 1, by omega, by go_num, by trivial⟩
              case measure => simp [intOf]; omega
            | true =>
              have hxm := ab_trans hok p r m hxr hz
              rw [hxr] at hc2
              rw [hxm] at hc1
              go_wp2_with fail
              go_roundw
              case rel => exact ⟨m + 1, by omega, by go_num, by trivial⟩
              case measure => simp [intOf]; omega
        · clear hixp hcxp
          obtain ⟨BS, hBS⟩ : ∃ B, basesL l p q = B := ⟨_, rfl⟩
          have HM : Hid (∀ (m : Nat) (hm : m < BS.length), ∃ t : Nat, BS[m] = t ∧ t < l.length ∧ baseB l p q t = true) := fun m hm => mem_bases (by rw [hBS]; exact List.getElem_mem hm)
          have HU := keepBack (under_eq hok (a := p) (b := q) (k := r) hpl)
          have HD : Hid (∀ (i j : Nat) (hi : i < BS.length) (hj : j < BS.length), i ≠ j → BS[i] ≠ BS[j]) := by
            have hnd := bases_nodup l p q
            rw [hBS] at hnd
            intro i j hi hj hne
            rcases Nat.lt_or_gt_of_ne hne with h | h
            · exact List.pairwise_iff_getElem.1 hnd i j hi hj h
            · exact fun e => List.pairwise_iff_getElem.1 hnd j i hj hi h e.symm
          have HB14 : Hid (BS.length ≤ 14) := by
            rw [← hBS]
            have := basesTo_length l p q l.length
            exact Nat.le_trans this h14
          rw [hBS] at HU hbs bb1
          have hB0 := HB14.out
          go_wp2_with fail
          go_loopw [21, 22] (fun s i wr => ∃ (m : Nat), m ≤ BS.length ∧ i = .int .i64 m ∧ s = .bool ((BS.take m).any fun t => ab l t.toNat r) ∧ Below w5.heap.size w5 wr) (fun _ i _ => BS.length - (intOf i).toNat)
          case atStart => exact ⟨0, Nat.zero_le _, rfl, rfl, Below.refl _ _⟩
          case round =>
            obtain ⟨m, hm, rfl, rfl, hbr⟩ := hrel
            have c6 := c5.trans (hbr.mono c5.size)
            by_cases hlt2 : m < BS.length
            · obtain ⟨t, ht, htl, htb⟩ := HM.out m hlt2
              have hboth := base_both htb
              obtain ⟨g1, o1, hix1, _, _, _, hc1⟩ := (hbs.call hbr).idxInt aInt m m rfl hlt2
              obtain ⟨g2, o2, hix2, _, _, hc2⟩ := (X.call hbr).idxBool aBool t t rfl (by rw [aboveL_length]; exact htl)
              obtain ⟨g3, o3, hix3, _, _, hc3⟩ := (Y.call hbr).idxBool aBool t t rfl (by rw [aboveL_length]; exact htl)
              rw [aboveL_get] at hc2 hc3
              rw [hboth.1] at hc2
              rw [hboth.2] at hc3
              rw [ht] at hc1
              have HT := keepBack ht
              have hany : ((BS.take (m + 1)).any fun t => ab l t.toNat r) = (((BS.take m).any fun t => ab l t.toNat r) || ab l t r) := by
                rw [List.take_succ_eq_append_getElem hlt2, List.any_append, ht]; simp
              have HA := keepBack hany
              generalize hU : ((BS.take m).any fun t => ab l t.toNat r) = U at HA
              clear ht hboth hany
              go_wp2_with fail
              refine (dagAbove_of _ l t _ wr (hv.call c6) (by constructor <;> omega) (TA.out t htl)).mono ?_; rintro e w7 ⟨_, rfl, ⟨x7, rfl, hx7⟩, b7⟩
              obtain ⟨a7, c7, rfl, s71, s72, _⟩ := hx7.shapeAt l.length (aboveL_length l t)
              have d7 := hbr.trans (b7.mono hbr.size)
              obtain ⟨g4, o4, hix4, _, _, hc4⟩ := hx7.idxBool aBool r r rfl (by rw [aboveL_length]; exact hrl)
              rw [aboveL_get] at hc4
              clear hix1 hix2 hix3 hc1 hc2 hc3
              cases U
              all_goals
                go_wp2_with fail
                go_loopw [25] (fun i wr' => ∃ (j : Nat), j ≤ BS.length ∧ i = .int .i64 j ∧ wr' = w7) (fun i _ => BS.length - (intOf i).toNat)
                case atStart => exact ⟨0, Nat.zero_le _, rfl, rfl⟩
                case round =>
                  obtain ⟨j, hj, rfl, hw⟩ := hrel
                  obtain rfl : w7 = wr := hw.symm
                  clear hix4 hc4
                  by_cases hlt3 : j < BS.length
                  · by_cases hjm : j = m
                    · have hne : ((j : Int) != (m : Int)) = false := by simp [hjm]
                      clear hjm
                      go_wp2_with fail
                      go_roundw
                      case rel => exact ⟨j + 1, by omega, by go_num, by trivial⟩
                      case measure => simp [intOf]; omega
                    · have hne : ((j : Int) != (m : Int)) = true := by simp; omega
                      obtain ⟨u, hu, hul, hub⟩ := HM.out j hlt3
                      have hut : u ≠ t := fun e => HD.out j m hlt3 hlt2 hjm (by rw [hu, HT.out, e])
                      have hap := base_apart hok htl htb hub hut
                      obtain ⟨g5, o5, hix5, _, _, _, hc5⟩ := (hbs.call d7).idxInt aInt j j rfl hlt3
                      obtain ⟨g6, o6, hix6, _, _, hc6⟩ := hx7.idxBool aBool u u rfl (by rw [aboveL_length]; exact hul)
                      rw [aboveL_get, hap] at hc6
                      rw [hu] at hc5
                      clear hjm hu hut hap
                      go_wp2_with fail
                      go_roundw
                      case rel => exact ⟨j + 1, by omega, by go_num, by trivial⟩
                      case measure => simp [intOf]; omega
                  · go_wp2_with fail
                    go_roundw
                    case rel => exact ⟨m + 1, by omega, by go_num, by rw [HA.out]; rfl, d7⟩
                    case measure => simp [intOf]; omega
            · obtain rfl : m = BS.length := by omega
              rw [List.take_length, HU.out]
              go_wp2_with fail
              refine (dagBegun _).mono ?_; rintro e w8 ⟨_, rfl, rfl, b8⟩
              have d8 := hbr.trans (b8.mono hbr.size)
              obtain ⟨g5, o5, hix5, _, _, hc5⟩ := (X.call d8).idxBool aBool r r rfl (by rw [aboveL_length]; exact hrl)
              obtain ⟨g6, o6, hix6, _, _, hc6⟩ := (Y.call d8).idxBool aBool r r rfl (by rw [aboveL_length]; exact hrl)
              rw [aboveL_get] at hc5 hc6
              have c8 := c5.trans (d8.mono c5.size)
              cases hA : ab l p r <;> cases hB : ab l q r <;> rw [hA] at hc5 <;> rw [hB] at hc6
              all_goals
                go_wp2
                go_ret
                exact ⟨_, rfl, rfl, c8⟩
  · have he' : (commitsErr l != 0) = true := by simp [he]
    go_enter Try.func5, Try.ntmps5
    go_wp2_with fail
    refine (dagCheck _ l _ w hv).mono ?_; rintro e w1 ⟨_, rfl, rfl, b1⟩
    go_wp2_with fail
    refine (dagBegun w1).mono ?_; rintro e w2 ⟨_, rfl, rfl, b2⟩
    go_wp2
    go_ret
    exact ⟨_, rfl, rfl, b1.trans (b2.mono b1.size)⟩

end Go.Pch
