/- The document's desk: a line: diff. (gen_dmc.py) The document's desk: a line: none of the words. (gen_dmc.py) The document's desk: a line, whatever its words. -/
import Derived.Test.YtjjkdpjjaijmbaaGreatDoorDg39
import Derived.Test.YtjjkdpjjaijmbaaGreatDoorDg43
import Derived.Test.YtjjkdpjjaijmbaaGreatDoorDg48
import Derived.Test.YtjjkdpjjaijmbaaGreatDoorDg13
import Derived.Test.YtjjkdpjjaijmbaaGreatDoorDg40
import Derived.Test.YtjjkdpjjaijmbaaGreatDoorDg41
import Derived.Test.YtjjkdpjjaijmbaaGreatDoorDg44
import Derived.Test.YtjjkdpjjaijmbaaGreatDoorDg47
section
namespace Go.Pch
open Go.RowKit Go.Proofs
set_option maxRecDepth 100000
set_option linter.unusedVariables false
set_option maxHeartbeats 4000000 in
theorem playedDiff (v : Value) (r : Repo) (s : Bytes) (hs : s.length ≤ 4096) (hr : repoErr r = 0) (S : Blk) (w : World) (h : Rp w S v r) {N : Nat} {c0 c1 c2 c3 : Bytes} (hP : Padded s N c0 c1 c2 c3) {k2 k3 : Int} (hk2 : numI (numP c2) = k2) (hk3 : numI (numP c3) = k3) (hlen : N = 3) (hw : c0 = wDiff) :
    Calls Tryz.prog 16 #[v, .string (bl s)] w (Ret w (PlayedPost w.heap.size S (diffO r (hdRows r c1) (hdRows r c2)))) := by
  obtain ⟨p, hp⟩ : ∃ p, p = hdRows r c1 := ⟨_, rfl⟩
  obtain ⟨q, hq⟩ : ∃ q, q = hdRows r c2 := ⟨_, rfl⟩
  rw [← hp, ← hq]
  have HP := keepBack hp
  have HQQ := keepBack hq
  clear hp hq
  have hR := h
  have HK2 := keepBack hk2
  have HK3 := keepBack hk3
  clear hk2 hk3
  have hl2 := Nat.le_trans (pad_short s _ _ hP.w2) hs
  have hl3 := Nat.le_trans (pad_short s _ _ hP.w3) hs
  have HC0 := keepBack hw
  clear hw
  have HLEN := keepBack hlen
  clear hlen
  obtain ⟨vc, vh, rfl, hc, hh⟩ := h
  obtain ⟨ac, cc, hvc, _, _, _⟩ := hc.shape
  obtain ⟨ah, ch, hvh, _, _, _⟩ := hh.shape
  obtain ⟨nc, hnc⟩ : ∃ n, n = r.1.length := ⟨_, rfl⟩
  obtain ⟨nh, hnh⟩ : ∃ n, n = r.2.length := ⟨_, rfl⟩
  rw [← hnc] at hvc
  rw [← hnh] at hvh
  clear hnc hnh
  subst hvc hvh
  clear hc hh
  have hX := boxAt w (.slice ac nc cc) (.slice ah nh ch)
  obtain ⟨wB, hwB⟩ : ∃ wB, wB = (w.alloc (.cells #[.slice ac nc cc, .slice ah nh ch] 33)).alloc (.cells #[.slice none 0 0, .slice none 0 0] 33) := ⟨_, rfl⟩
  rw [← hwB] at hX
  have HWB := keepBack hwB
  clear hwB
  have HZB := keepBack hX.size
  go_enter Tryz.func16, Tryz.ntmps16
  go_wp2_with fail
  rw [← HWB.out]
  refine (refSplit s hs wB).mono ?_; rintro e w1 ⟨_, rfl, ho, b1⟩
  obtain ⟨ag, cg, hv, _, _⟩ := ho.shape
  rw [List.length_map, hP.len] at hv
  have hNs : N ≤ 4097 := by rw [← hP.len, spl_len]; have := List.count_le_length (a := (32 : UInt8)) (l := s); omega
  have hN1 : 1 ≤ N := by rw [← hP.len, spl_len]; omega
  subst hv
  have hob := ho.block
  have z1 := b1.size
  have hsrc := srcEmpty w1 (fun _ => False)
  go_wp2_with (at_builtin; refine wpList_grow rfl (.tmp 37) (.tmp 38) rfl aStr rfl (ho.alloc _) rfl rfl hsrc (by simp) (fun _ h => h.elim) (by rw [List.length_map, hP.len]; simp only [List.length_cons, List.length_nil]; omega) (by simp; omega) ?_)
  intro v2 w2 ho2 hg2
  have hb2 : Below wB.heap.size wB w2 := (b1.alloc (by have := b1.size; omega) _).grown hg2 (by have := b1.size; simp; omega) (fun g hg => (hob g hg).1)
  clear hsrc hg2 hob
  have hsl : Sl tStr w2 (fun k => wB.heap.size ≤ k) v2 ((spl s ++ [[], [], [], []]).map bl) := by rw [List.map_append]; exact ho2.sl (fun _ h => h.elim) (fun _ h => h)
  clear ho2 ho
  obtain ⟨⟨a2, g2, hv⟩, x0, o0, x1, o1, x2, o2, x3, o3, hA⟩ := padAt hP hsl
  clear hsl
  have hN : N = 3 := HLEN.out
  subst hN
  replace hv : v2 = .slice a2 7 g2 := hv
  subst hv
  clear hNs hN1
  have i0 := hA.i0
  have i1 := hA.i1
  have i2 := hA.i2
  have i3 := hA.i3
  have HA := keepBack hA
  have KS : Hid (∀ W, Below w2.heap.size w2 W → Below w2.heap.size w2 W ∧ W.cell? ⟨x2, o2, none⟩ = some (.string (bl c2)) ∧ W.cell? ⟨x3, o3, none⟩ = some (.string (bl c3))) := keepBack fun W hW => ⟨hW, (hA.call hW).e2, (hA.call hW).e3⟩
  clear hA
  go_wp2_with fail
  go_region_held3 (fun W => Below w2.heap.size w2 W ∧ W.cell? ⟨x2, o2, none⟩ = some (.string (bl c2)) ∧ W.cell? ⟨x3, o3, none⟩ = some (.string (bl c3)))
    (first
      | exact KS.out _ (by assumption)
      | exact KS.out _ (Below.refl _ _)
      | exact KS.out _ (Below.refl _ _).drew
      | exact KS.out _ (Below.drew (by assumption))
      | fail)
    (first
      | (go_at_call 32; refine (refNum _ (by first | exact hl2 | exact hl3) _).mono ?_; rintro e w3 ⟨_, rfl, rfl, b3⟩; have cB : Below w2.heap.size w2 w3 := below_onD (by first | assumption | exact (Below.refl _ _).drew | exact Below.refl _ _ | exact Below.drew (by assumption)) b3)
      | fail)
  have hl1 := Nat.le_trans (pad_short s _ _ hP.w1) hs
  clear KS hl2 hl3
  rw [HK2.out, HK3.out]
  have b23 : Below w2.heap.size w2 w3 := by assumption
  have hb3 := hb2.trans (b23.mono hb2.size)
  have hA3 := HA.out.call b23
  have e0 := hA3.e0
  have e1 := hA3.e1
  have e2 := hA3.e2
  have e3 := hA3.e3
  have HA3 := keepBack hA3
  clear hA3
  obtain ⟨y0, y1, y2, y3, yf⟩ := hX.on hb3
  clear b1 hb2
  have q0 : ¬ (bl c0).toList = [112, 117, 116] := by rw [bl_list, HC0.out]; decide
  have q1 : ¬ (bl c0).toList = [99, 117, 116] := by rw [bl_list, HC0.out]; decide
  have q2 : ¬ (bl c0).toList = [98, 114, 97, 110, 99, 104] := by rw [bl_list, HC0.out]; decide
  have q3 : ¬ (bl c0).toList = [100, 114, 111, 112] := by rw [bl_list, HC0.out]; decide
  have q4 : ¬ (bl c0).toList = [109, 101, 114, 103, 101] := by rw [bl_list, HC0.out]; decide
  have q5 : ¬ (bl c0).toList = [114, 111, 119, 115] := by rw [bl_list, HC0.out]; decide
  have q6 : ¬ (bl c0).toList = [114, 111, 111, 116] := by rw [bl_list, HC0.out]; decide
  have q7 : ¬ (bl c0).toList = [108, 111, 103] := by rw [bl_list, HC0.out]; decide
  have q8 : (bl c0).toList = [100, 105, 102, 102] := by rw [bl_list, HC0.out]; decide
  have hR3 : Rp w3 S (.agg #[.slice ac nc cc, .slice ah nh ch]) r := hR.call (hX.low.trans (hb3.mono (by rw [HZB.out]; omega)))
  have KR : ∀ W, Below w3.heap.size w3 W → Below w3.heap.size w3 W ∧ W.cell? ⟨w.heap.size, 0, none⟩ = some (.slice ac nc cc) ∧ W.cell? ⟨w.heap.size, 1, none⟩ = some (.slice ah nh ch) ∧ W.cell? ⟨x1, o1, none⟩ = some (.string (bl c1)) ∧ W.cell? ⟨x2, o2, none⟩ = some (.string (bl c2)) := fun W hW => by
    obtain ⟨u0, u1, _, _, _⟩ := hX.on (hb3.trans (hW.mono hb3.size))
    have hu := HA3.out.call hW
    exact ⟨hW, u0, u1, hu.e1, hu.e2⟩
  have T : ∀ W, Below w3.heap.size w3 W → Calls Tryz.prog 38 #[.agg #[.slice ac nc cc, .slice ah nh ch], .string (bl c1)] W (Ret W fun x w' => ∃ y, x = .tuple #[y, .int .i64 p.2] ∧ Sl tRow w' S y p.1) := fun W hW => by
    rw [HP.out]
    exact refRowsAt _ r c1 S W (hR3.call hW)
  have TQ : ∀ W, Below w3.heap.size w3 W → Calls Tryz.prog 38 #[.agg #[.slice ac nc cc, .slice ah nh ch], .string (bl c2)] W (Ret W fun x w' => ∃ y, x = .tuple #[y, .int .i64 q.2] ∧ Sl tRow w' S y q.1) := fun W hW => by
    rw [HQQ.out]
    exact refRowsAt _ r c2 S W (hR3.call hW)
  have hok : rowsErr p.1 = 0 := by rw [HP.out]; exact hdRows_ok hr c1
  have hokq : rowsErr q.1 = 0 := by rw [HQQ.out]; exact hdRows_ok hr c2
  have h40 := (ok_rise hok).1
  have h40q := (ok_rise hokq).1
  go_wp2_with fail
  go_region_held3 (fun W => Below w3.heap.size w3 W ∧ W.cell? ⟨w.heap.size, 0, none⟩ = some (.slice ac nc cc) ∧ W.cell? ⟨w.heap.size, 1, none⟩ = some (.slice ah nh ch) ∧ W.cell? ⟨x1, o1, none⟩ = some (.string (bl c1)) ∧ W.cell? ⟨x2, o2, none⟩ = some (.string (bl c2)))
    (first
      | exact KR _ (by assumption)
      | exact KR _ (Below.refl _ _)
      | exact KR _ (Below.refl _ _).drew
      | exact KR _ (Below.drew (by assumption))
      | fail)
    (first
      | (go_at_call 38; refine (T _ (by first | assumption | exact (Below.refl _ _).drew | exact Below.refl _ _ | exact Below.drew (by assumption))).mono ?_; rintro e w4 ⟨_, rfl, ⟨y, rfl, hy⟩, b4⟩; obtain ⟨al, cl, hal, _, _, _⟩ := hy.shape; obtain ⟨n, hn⟩ : ∃ n, n = p.1.length := ⟨_, rfl⟩; rw [← hn] at hal; have HNL := keepBack hn; clear hn; subst hal; have b34 : Below w3.heap.size w3 w4 := below_onD (by first | assumption | exact (Below.refl _ _).drew | exact Below.refl _ _ | exact Below.drew (by assumption)) b4)
      | fail)
  have b5 := hb3.trans (b34.mono hb3.size)
  obtain ⟨z0, z1, z2, z3, zf⟩ := hX.on b5
  have hE4 := HA3.out.call b34
  have e14 := hE4.e1
  have e24 := hE4.e2
  clear T y0 y1 y2 y3 yf e0 e1 e2 e3 i0 i1 i3
  by_cases hz : p.2 = 0
  · have KR4 : ∀ W, Below w4.heap.size w4 W → Below w4.heap.size w4 W ∧ W.cell? ⟨w.heap.size, 0, none⟩ = some (.slice ac nc cc) ∧ W.cell? ⟨w.heap.size, 1, none⟩ = some (.slice ah nh ch) ∧ W.cell? ⟨x1, o1, none⟩ = some (.string (bl c1)) ∧ W.cell? ⟨x2, o2, none⟩ = some (.string (bl c2)) := fun W hW => by
      obtain ⟨_, k1, k2, k3, k4⟩ := KR W (b34.trans (hW.mono b34.size))
      exact ⟨hW, k1, k2, k3, k4⟩
    have TQ4 : ∀ W, Below w4.heap.size w4 W → Calls Tryz.prog 38 #[.agg #[.slice ac nc cc, .slice ah nh ch], .string (bl c2)] W (Ret W fun x w' => ∃ y, x = .tuple #[y, .int .i64 q.2] ∧ Sl tRow w' S y q.1) := fun W hW => TQ W (b34.trans (hW.mono b34.size))
    clear TQ KR
    go_wp2_with fail
    go_region_held3 (fun W => Below w4.heap.size w4 W ∧ W.cell? ⟨w.heap.size, 0, none⟩ = some (.slice ac nc cc) ∧ W.cell? ⟨w.heap.size, 1, none⟩ = some (.slice ah nh ch) ∧ W.cell? ⟨x1, o1, none⟩ = some (.string (bl c1)) ∧ W.cell? ⟨x2, o2, none⟩ = some (.string (bl c2)))
      (first
        | exact KR4 _ (by assumption)
        | exact KR4 _ (Below.refl _ _)
        | exact KR4 _ (Below.refl _ _).drew
        | exact KR4 _ (Below.drew (by assumption))
        | fail)
      (first
        | (go_at_call 38; refine (TQ4 _ (by first | assumption | exact (Below.refl _ _).drew | exact Below.refl _ _ | exact Below.drew (by assumption))).mono ?_; rintro e w5 ⟨_, rfl, ⟨y', rfl, hy'⟩, b5'⟩; obtain ⟨al', cl', hal', _, _, _⟩ := hy'.shape; obtain ⟨n', hn'⟩ : ∃ n, n = q.1.length := ⟨_, rfl⟩; rw [← hn'] at hal'; clear hn'; subst hal'; have b45 : Below w4.heap.size w4 w5 := below_onD (by first | assumption | exact (Below.refl _ _).drew | exact Below.refl _ _ | exact Below.drew (by assumption)) b5')
        | fail)
    have b6 := b5.trans (b45.mono b5.size)
    clear z0 z1 z2 z3 zf
    obtain ⟨z0, z1, z2, z3, zf⟩ := hX.on b6
    clear TQ4 KR4 e14 e24 i2
    by_cases hzq : q.2 = 0
    · have HO : Hid (diffO r p q = (r, lsL ((betw p.1 q.1).map chgL), 0)) := keepBack (by rw [diffO, if_pos hz, if_pos hzq])
      have hy5 := hy.call b45
      clear hy
      have TD : ∀ W, Below w5.heap.size w5 W → Calls Tryz.prog 43 #[.slice al n cl, .slice al' n' cl'] W (Ret W fun r w' => Sl tChange w' (fun k => W.heap.size ≤ k) r (betw p.1 q.1)) := fun W hW => by
        rw [betw_diff (ok_rise hok).2 (ok_rise hokq).2]
        exact refDiffer _ _ p.1 q.1 S S W (hy5.call hW) (hy'.call hW) (ok_rise hok).2 (ok_rise hokq).2
      obtain ⟨D, hD⟩ : ∃ D, D = betw p.1 q.1 := ⟨_, rfl⟩
      have hDl : D.length ≤ 100 := by rw [hD]; have := betw_len p.1 q.1; omega
      have hfine : ∀ x ∈ D, x.1 ≤ 996 ∧ x.2.1 ≤ 996 ∧ x.2.2 ≤ 996 := by rw [hD]; exact betw_le _ _ (fine_of_rise (by decide) (ok_rise hok).2) (fine_of_rise (by decide) (ok_rise hokq).2)
      rw [← hD] at TD HO
      have HDD := keepBack hD
      clear hD
      have hj : (Lib.join (D.map fun x => chgL x) [32]).length ≤ 1000000000 := by
        refine Nat.le_trans (join_len _ 100 fun x hx => ?_) (by rw [List.length_map]; omega)
        obtain ⟨y, hy, rfl⟩ := List.mem_map.1 hx
        have := hfine y hy
        have e1 := dgL_len (n := y.1) (by omega)
        have e2 := dgL_len (n := y.2.1) (by omega)
        have e3 := dgL_len (n := y.2.2) (by omega)
        simp only [chgL, List.length_append, List.length_cons]
        omega
      clear hfine
      obtain ⟨nn, hnn⟩ : ∃ m, m = n := ⟨_, rfl⟩
      have HNN := keepBack HNL.out
      clear HNL
      go_wp2_with fail
      refine (TD _ (Below.refl _ _)).mono ?_; rintro e wd ⟨_, rfl, hy, b7⟩
      have bd := b6.trans (b7.mono b6.size)
      clear z0 z1 z2 z3 zf
      obtain ⟨z0, z1, z2, z3, zf⟩ := hX.on bd
      obtain ⟨ad, cd, had, _, _, _⟩ := hy.shape
      obtain ⟨nd, hnd⟩ : ∃ m, m = D.length := ⟨_, rfl⟩
      rw [← hnd] at had
      have HNL := keepBack hnd
      clear hnd
      subst had
      have hcd : Below wd.heap.size wd wd.drew := (Below.refl _ _).drew
      have hnb : nd ≤ 100 := by rw [HNL.out]; omega
      go_wp2_with fail
      go_loopw [34, 35] (fun out i wr => ∃ (k : Nat) (q : List ByteArray), k ≤ nd ∧ i = .int .i64 k ∧ Below wd.heap.size wd wr ∧ Own tStr 9 wr wd.heap.size (fun _ => False) out q ∧ Hid (q = (D.take k).map fun x => bl (chgL x))) (fun _ i _ => nd - (intOf i).toNat)
      case atStart => exact ⟨0, [], Nat.zero_le _, rfl, Below.refl _ _, .nil, rfl⟩
      case round =>
        obtain ⟨k, q, hk, rfl, hb, ho, HQ⟩ := hrel
        have hz := hb.size
        by_cases hlt : k < nd
        · obtain ⟨x, hx⟩ : ∃ x, D[k]? = some x := ⟨_, List.getElem?_eq_getElem (by have := HNL.out; omega)⟩
          obtain ⟨b, o, hix, _, hbs, ok1, ok2, ok3, hc0', hc1', hc2'⟩ := hy.idxChgAt aChg k k x rfl hx
          have KL : ∀ W, Below wd.heap.size wd W → Below wd.heap.size wd W ∧ W.cell? ⟨b, o, none⟩ = some (.int .i64 x.1) ∧ W.cell? ⟨b, o + 1, none⟩ = some (.int .i64 x.2.1) ∧ W.cell? ⟨b, o + 2, none⟩ = some (.int .i64 x.2.2) := fun W hW => ⟨hW, (hW.cell (p := ⟨b, o, none⟩) hbs).trans hc0', (hW.cell (p := ⟨b, o + 1, none⟩) hbs).trans hc1', (hW.cell (p := ⟨b, o + 2, none⟩) hbs).trans hc2'⟩
          have la := dgL_len ok1.2
          have lb := dgL_len ok2.2
          have lc := dgL_len ok3.2
          have r1 : ¬ 9223372036854775807 < (bl (dgL x.1)).size + 1 := by rw [bl_size]; omega
          have r2 : ¬ 9223372036854775807 < (bl (dgL x.1)).size + 1 + (bl (dgL x.2.1)).size := by rw [bl_size, bl_size]; omega
          have r5 : ¬ 9223372036854775807 < (bl (dgL x.1)).size + 1 + (bl (dgL x.2.1)).size + 1 := by rw [bl_size, bl_size]; omega
          have r6 : ¬ 9223372036854775807 < (bl (dgL x.1)).size + 1 + (bl (dgL x.2.1)).size + 1 + (bl (dgL x.2.2)).size := by rw [bl_size, bl_size, bl_size]; omega
          clear la lb lc hc0' hc1' hc2'
          have HN : Hid (q ++ [bl (chgL x)] = (D.take (k + 1)).map fun x => bl (chgL x)) := keepBack (by rw [HQ.out, List.take_add_one, hx]; simp)
          have hql : q.length ≤ k := by rw [HQ.out]; simp; omega
          clear hx
          have hob := ho.block
          have hsrc := fun (W : World) (u : ByteArray) (t : TypeId) => Src.one (E := tStr) (w := W) (D := fun _ => False) (cs := [.string u]) (a := u) ⟨rfl, trivial⟩ t
          have hrd : Below wr.heap.size wr wr.drew := (Below.refl _ _).drew
          have hni : (k : Int) < nd := by omega
          go_wp2_with fail
          go_region_held3 (fun W => Below wd.heap.size wd W ∧ W.cell? ⟨b, o, none⟩ = some (.int .i64 x.1) ∧ W.cell? ⟨b, o + 1, none⟩ = some (.int .i64 x.2.1) ∧ W.cell? ⟨b, o + 2, none⟩ = some (.int .i64 x.2.2))
            (first
              | exact KL _ hb
              | exact KL _ hb.drew
              | exact KL _ k8
              | exact KL _ (hb.trans (c6.mono hb.size))
              | exact KL _ ((hb.trans (c6.mono hb.size)).alloc (Nat.le_trans hb.size c6.size) _)
              | fail)
            (first
              | (go_at_call 17; refine (refDigits _ _ (by first | exact ok1 | exact ok2 | exact ok3)).mono ?_; rintro e w6 ⟨_, rfl, rfl, b6⟩; have c6 : Below wr.heap.size wr w6 := below_onD (by first | assumption | exact (Below.refl _ _).drew | exact Below.refl _ _ | exact Below.drew (by assumption)) b6)
              | (refine step_grow rfl (.tmp 307) (.tmp 330) rfl aStr rfl (ho.call (c6.alloc c6.size _)) rfl rfl (hsrc _ _ _) (by simp) (fun _ h => h.elim) (by simp only [List.length_cons, List.length_nil]; omega) (by have := c6.size; simp; omega) ?_; intro v2 w8 ho8 hg8; have k8 : Below wd.heap.size wd w8 := ((hb.trans (c6.mono hb.size)).alloc (Nat.le_trans hb.size c6.size) _).grown hg8 (by have := c6.size; simp; omega) (fun g hg => (hob g hg).1))
              | fail)
          go_wp2
          go_roundw
          case rel => exact ⟨k + 1, _, by omega, by go_num, k8, ho8, by rw [← HN.out]; exact keepBack (by rw [bl_append3, bl_append3]; simp [chgL])⟩
          case measure => simp [intOf]; omega
        · obtain rfl : k = nd := by omega
          have hq : q = (D.map fun x => chgL x).map bl := by rw [HQ.out, HNL.out, List.take_length, List.map_map]; rfl
          rw [hq] at ho
          have hs := ho.sl (D := fun _ => True) (fun _ h => h.elim) (fun _ _ => trivial)
          have b9 := bd.trans (hb.mono bd.size)
          obtain ⟨t0, t1, t2, t3, tf⟩ := hX.on b9
          have hrd : Below wr.heap.size wr wr.drew := (Below.refl _ _).drew
          clear hq HQ z0 z1 z2 z3 zf
          obtain ⟨ag', cg', hv, _, _⟩ := ho.shape
          obtain ⟨m, hm⟩ : ∃ m, m = ((D.map fun x => chgL x).map bl).length := ⟨_, rfl⟩
          rw [← hm] at hv
          clear hm
          subst hv
          go_wp2_with fail
          go_region_law (first
            | (go_simp; go_at_call 39; refine (refJoined _ (D.map fun x => chgL x) _ _ (by first | exact hs | exact hs.call hrd) (by rw [List.length_map]; omega) hj).mono ?_; rintro e w6 ⟨_, rfl, rfl, b6⟩; have b7 : Below wr.heap.size wr w6 := (by first | exact b6 | exact hrd.trans b6); have b8 := b9.trans (b7.mono b9.size); obtain ⟨v0, v1, v2, v3, vf⟩ := hX.on b8)
            | fail)
          all_goals
            clear t0 t1 t2 t3 tf
            go_wp2
            refine bodyPost_ret (joinResults rfl _ _ _ _ _ _ _ _ rfl rfl rfl (hX.fin b8 _ _).1) rfl ?_
            refine ⟨_, rfl, ?_, (hX.fin b8 _ _).2⟩
            unfold PlayedPost
            rw [HO.out]
            exact ⟨_, _, _, _, _, _, _, rfl, fun _ => ⟨rfl, (hR.call (hX.fin b8 _ _).2).more fun k hk _ => .inl hk⟩⟩
    · have HO : Hid (diffO r p q = noO q.2) := keepBack (by rw [diffO, if_pos hz, if_neg hzq])
      have hne : (q.2 != 0) = true := by simp [hzq]
      go_wp2
      refine bodyPost_ret (joinResults rfl _ _ _ _ _ _ _ _ rfl rfl rfl (hX.fin b6 _ _).1) rfl ?_
      refine ⟨_, rfl, ?_, (hX.fin b6 _ _).2⟩
      exact PlayedPost.no (by rw [HO.out]; rfl) hzq
  · have HO : Hid (diffO r p q = noO p.2) := keepBack (by rw [diffO, if_neg hz])
    have hne : (p.2 != 0) = true := by simp [hz]
    go_wp2
    refine bodyPost_ret (joinResults rfl _ _ _ _ _ _ _ _ rfl rfl rfl (hX.fin b5 _ _).1) rfl ?_
    refine ⟨_, rfl, ?_, (hX.fin b5 _ _).2⟩
    exact PlayedPost.no (by rw [HO.out]; rfl) hz
end Go.Pch
end

section
namespace Go.Pch
open Go.RowKit Go.Proofs
set_option maxRecDepth 100000
set_option linter.unusedVariables false
set_option maxHeartbeats 4000000 in
theorem playedNone (v : Value) (r : Repo) (s : Bytes) (hs : s.length ≤ 4096) (hr : repoErr r = 0) (S : Blk) (w : World) (h : Rp w S v r) {N : Nat} {c0 c1 c2 c3 : Bytes} (hP : Padded s N c0 c1 c2 c3) {k2 k3 : Int} (hk2 : numI (numP c2) = k2) (hk3 : numI (numP c3) = k3) (hw : Fails c0 N k2 k3) :
    Calls Tryz.prog 16 #[v, .string (bl s)] w (Ret w (PlayedPost w.heap.size S (noO 1))) := by
  have hR := h
  have HK2 := keepBack hk2
  have HK3 := keepBack hk3
  clear hk2 hk3
  have hl2 := Nat.le_trans (pad_short s _ _ hP.w2) hs
  have hl3 := Nat.le_trans (pad_short s _ _ hP.w3) hs
  have HC0 := keepBack hw
  clear hw
  obtain ⟨vc, vh, rfl, hc, hh⟩ := h
  obtain ⟨ac, cc, hvc, _, _, _⟩ := hc.shape
  obtain ⟨ah, ch, hvh, _, _, _⟩ := hh.shape
  obtain ⟨nc, hnc⟩ : ∃ n, n = r.1.length := ⟨_, rfl⟩
  obtain ⟨nh, hnh⟩ : ∃ n, n = r.2.length := ⟨_, rfl⟩
  rw [← hnc] at hvc
  rw [← hnh] at hvh
  clear hnc hnh
  subst hvc hvh
  clear hc hh
  have hX := boxAt w (.slice ac nc cc) (.slice ah nh ch)
  obtain ⟨wB, hwB⟩ : ∃ wB, wB = (w.alloc (.cells #[.slice ac nc cc, .slice ah nh ch] 33)).alloc (.cells #[.slice none 0 0, .slice none 0 0] 33) := ⟨_, rfl⟩
  rw [← hwB] at hX
  have HWB := keepBack hwB
  clear hwB
  have HZB := keepBack hX.size
  go_enter Tryz.func16, Tryz.ntmps16
  go_wp2_with fail
  rw [← HWB.out]
  refine (refSplit s hs wB).mono ?_; rintro e w1 ⟨_, rfl, ho, b1⟩
  obtain ⟨ag, cg, hv, _, _⟩ := ho.shape
  rw [List.length_map, hP.len] at hv
  have hNs : N ≤ 4097 := by rw [← hP.len, spl_len]; have := List.count_le_length (a := (32 : UInt8)) (l := s); omega
  have hN1 : 1 ≤ N := by rw [← hP.len, spl_len]; omega
  subst hv
  have hob := ho.block
  have z1 := b1.size
  have hsrc := srcEmpty w1 (fun _ => False)
  go_wp2_with (at_builtin; refine wpList_grow rfl (.tmp 37) (.tmp 38) rfl aStr rfl (ho.alloc _) rfl rfl hsrc (by simp) (fun _ h => h.elim) (by rw [List.length_map, hP.len]; simp only [List.length_cons, List.length_nil]; omega) (by simp; omega) ?_)
  intro v2 w2 ho2 hg2
  have hb2 : Below wB.heap.size wB w2 := (b1.alloc (by have := b1.size; omega) _).grown hg2 (by have := b1.size; simp; omega) (fun g hg => (hob g hg).1)
  clear hsrc hg2 hob
  have hsl : Sl tStr w2 (fun k => wB.heap.size ≤ k) v2 ((spl s ++ [[], [], [], []]).map bl) := by rw [List.map_append]; exact ho2.sl (fun _ h => h.elim) (fun _ h => h)
  clear ho2 ho
  obtain ⟨⟨a2, g2, hv⟩, x0, o0, x1, o1, x2, o2, x3, o3, hA⟩ := padAt hP hsl
  clear hsl
  obtain ⟨M, hM⟩ : ∃ M, M = N + 4 := ⟨_, rfl⟩
  rw [← hM] at hv
  subst hv
  have hM1 : (5 : Int) ≤ M := by omega
  have hM2 : (M : Int) ≤ 5000 := by omega
  have HM := keepBack hM
  clear hM
  clear hNs hN1
  have i0 := hA.i0
  have i1 := hA.i1
  have i2 := hA.i2
  have i3 := hA.i3
  have HA := keepBack hA
  have KS : Hid (∀ W, Below w2.heap.size w2 W → Below w2.heap.size w2 W ∧ W.cell? ⟨x2, o2, none⟩ = some (.string (bl c2)) ∧ W.cell? ⟨x3, o3, none⟩ = some (.string (bl c3))) := keepBack fun W hW => ⟨hW, (hA.call hW).e2, (hA.call hW).e3⟩
  clear hA
  go_wp2_with fail
  go_region_held3 (fun W => Below w2.heap.size w2 W ∧ W.cell? ⟨x2, o2, none⟩ = some (.string (bl c2)) ∧ W.cell? ⟨x3, o3, none⟩ = some (.string (bl c3)))
    (first
      | exact KS.out _ (by assumption)
      | exact KS.out _ (Below.refl _ _)
      | exact KS.out _ (Below.refl _ _).drew
      | exact KS.out _ (Below.drew (by assumption))
      | fail)
    (first
      | (go_at_call 32; refine (refNum _ (by first | exact hl2 | exact hl3) _).mono ?_; rintro e w3 ⟨_, rfl, rfl, b3⟩; have cB : Below w2.heap.size w2 w3 := below_onD (by first | assumption | exact (Below.refl _ _).drew | exact Below.refl _ _ | exact Below.drew (by assumption)) b3)
      | fail)
  have hl1 := Nat.le_trans (pad_short s _ _ hP.w1) hs
  clear KS hl2 hl3
  rw [HK2.out, HK3.out]
  have b23 : Below w2.heap.size w2 w3 := by assumption
  have hb3 := hb2.trans (b23.mono hb2.size)
  have hA3 := HA.out.call b23
  have e0 := hA3.e0
  have e1 := hA3.e1
  have e2 := hA3.e2
  have e3 := hA3.e3
  have HA3 := keepBack hA3
  clear hA3
  obtain ⟨y0, y1, y2, y3, yf⟩ := hX.on hb3
  clear b1 hb2
  by_cases h0 : c0 = wPut
  · have hc := h0
    have q0 : (bl c0).toList = [112, 117, 116] := by rw [bl_list, hc]; decide
    have q1 : ¬ (bl c0).toList = [99, 117, 116] := by rw [bl_list, hc]; decide
    have q2 : ¬ (bl c0).toList = [98, 114, 97, 110, 99, 104] := by rw [bl_list, hc]; decide
    have q3 : ¬ (bl c0).toList = [100, 114, 111, 112] := by rw [bl_list, hc]; decide
    have q4 : ¬ (bl c0).toList = [109, 101, 114, 103, 101] := by rw [bl_list, hc]; decide
    have q5 : ¬ (bl c0).toList = [114, 111, 119, 115] := by rw [bl_list, hc]; decide
    have q6 : ¬ (bl c0).toList = [114, 111, 111, 116] := by rw [bl_list, hc]; decide
    have q7 : ¬ (bl c0).toList = [108, 111, 103] := by rw [bl_list, hc]; decide
    have q8 : ¬ (bl c0).toList = [100, 105, 102, 102] := by rw [bl_list, hc]; decide
    by_cases hM8 : M = 8
    · have hN : N = 4 := by have := HM.out; omega
      subst hM8
      by_cases hk : 0 ≤ k2
      · have hk3 := HC0.out.put h0 hN hk
        clear hc h0 hN
        go_wp2
        refine bodyPost_ret (joinResults rfl _ _ _ _ _ _ _ _ rfl rfl rfl (hX.fin hb3 _ _).1) rfl ?_
        exact ⟨_, rfl, PlayedPost.no rfl (by decide), (hX.fin hb3 _ _).2⟩
      · clear hc h0 hN
        go_wp2
        refine bodyPost_ret (joinResults rfl _ _ _ _ _ _ _ _ rfl rfl rfl (hX.fin hb3 _ _).1) rfl ?_
        exact ⟨_, rfl, PlayedPost.no rfl (by decide), (hX.fin hb3 _ _).2⟩
    · have hn : ((M : Int) - 4 == 4) = false := by rw [beq_eq_false_iff_ne]; omega
      clear hc h0
      go_wp2
      refine bodyPost_ret (joinResults rfl _ _ _ _ _ _ _ _ rfl rfl rfl (hX.fin hb3 _ _).1) rfl ?_
      exact ⟨_, rfl, PlayedPost.no rfl (by decide), (hX.fin hb3 _ _).2⟩
  by_cases h1 : c0 = wCut
  · have hc := h1
    have q0 : ¬ (bl c0).toList = [112, 117, 116] := by rw [bl_list, hc]; decide
    have q1 : (bl c0).toList = [99, 117, 116] := by rw [bl_list, hc]; decide
    have q2 : ¬ (bl c0).toList = [98, 114, 97, 110, 99, 104] := by rw [bl_list, hc]; decide
    have q3 : ¬ (bl c0).toList = [100, 114, 111, 112] := by rw [bl_list, hc]; decide
    have q4 : ¬ (bl c0).toList = [109, 101, 114, 103, 101] := by rw [bl_list, hc]; decide
    have q5 : ¬ (bl c0).toList = [114, 111, 119, 115] := by rw [bl_list, hc]; decide
    have q6 : ¬ (bl c0).toList = [114, 111, 111, 116] := by rw [bl_list, hc]; decide
    have q7 : ¬ (bl c0).toList = [108, 111, 103] := by rw [bl_list, hc]; decide
    have q8 : ¬ (bl c0).toList = [100, 105, 102, 102] := by rw [bl_list, hc]; decide
    by_cases hM7 : M = 7
    · have hN : N = 3 := by have := HM.out; omega
      subst hM7
      have hk := HC0.out.cut h1 hN
      clear hc h1 hN
      go_wp2
      refine bodyPost_ret (joinResults rfl _ _ _ _ _ _ _ _ rfl rfl rfl (hX.fin hb3 _ _).1) rfl ?_
      exact ⟨_, rfl, PlayedPost.no rfl (by decide), (hX.fin hb3 _ _).2⟩
    · have hn : ((M : Int) - 4 == 3) = false := by rw [beq_eq_false_iff_ne]; omega
      clear hc h1
      go_wp2
      refine bodyPost_ret (joinResults rfl _ _ _ _ _ _ _ _ rfl rfl rfl (hX.fin hb3 _ _).1) rfl ?_
      exact ⟨_, rfl, PlayedPost.no rfl (by decide), (hX.fin hb3 _ _).2⟩
  by_cases h2 : c0 = wBranch
  · have hc := h2
    have q0 : ¬ (bl c0).toList = [112, 117, 116] := by rw [bl_list, hc]; decide
    have q1 : ¬ (bl c0).toList = [99, 117, 116] := by rw [bl_list, hc]; decide
    have q2 : (bl c0).toList = [98, 114, 97, 110, 99, 104] := by rw [bl_list, hc]; decide
    have q3 : ¬ (bl c0).toList = [100, 114, 111, 112] := by rw [bl_list, hc]; decide
    have q4 : ¬ (bl c0).toList = [109, 101, 114, 103, 101] := by rw [bl_list, hc]; decide
    have q5 : ¬ (bl c0).toList = [114, 111, 119, 115] := by rw [bl_list, hc]; decide
    have q6 : ¬ (bl c0).toList = [114, 111, 111, 116] := by rw [bl_list, hc]; decide
    have q7 : ¬ (bl c0).toList = [108, 111, 103] := by rw [bl_list, hc]; decide
    have q8 : ¬ (bl c0).toList = [100, 105, 102, 102] := by rw [bl_list, hc]; decide
    have hN := HC0.out.branch h2
    have hn : ((M : Int) - 4 == 3) = false := by rw [beq_eq_false_iff_ne]; have := HM.out; omega
    clear hc h2 hN
    go_wp2
    refine bodyPost_ret (joinResults rfl _ _ _ _ _ _ _ _ rfl rfl rfl (hX.fin hb3 _ _).1) rfl ?_
    exact ⟨_, rfl, PlayedPost.no rfl (by decide), (hX.fin hb3 _ _).2⟩
  by_cases h3 : c0 = wDrop
  · have hc := h3
    have q0 : ¬ (bl c0).toList = [112, 117, 116] := by rw [bl_list, hc]; decide
    have q1 : ¬ (bl c0).toList = [99, 117, 116] := by rw [bl_list, hc]; decide
    have q2 : ¬ (bl c0).toList = [98, 114, 97, 110, 99, 104] := by rw [bl_list, hc]; decide
    have q3 : (bl c0).toList = [100, 114, 111, 112] := by rw [bl_list, hc]; decide
    have q4 : ¬ (bl c0).toList = [109, 101, 114, 103, 101] := by rw [bl_list, hc]; decide
    have q5 : ¬ (bl c0).toList = [114, 111, 119, 115] := by rw [bl_list, hc]; decide
    have q6 : ¬ (bl c0).toList = [114, 111, 111, 116] := by rw [bl_list, hc]; decide
    have q7 : ¬ (bl c0).toList = [108, 111, 103] := by rw [bl_list, hc]; decide
    have q8 : ¬ (bl c0).toList = [100, 105, 102, 102] := by rw [bl_list, hc]; decide
    have hN := HC0.out.drop h3
    have hn : ((M : Int) - 4 == 2) = false := by rw [beq_eq_false_iff_ne]; have := HM.out; omega
    clear hc h3 hN
    go_wp2
    refine bodyPost_ret (joinResults rfl _ _ _ _ _ _ _ _ rfl rfl rfl (hX.fin hb3 _ _).1) rfl ?_
    exact ⟨_, rfl, PlayedPost.no rfl (by decide), (hX.fin hb3 _ _).2⟩
  by_cases h4 : c0 = wMerge
  · have hc := h4
    have q0 : ¬ (bl c0).toList = [112, 117, 116] := by rw [bl_list, hc]; decide
    have q1 : ¬ (bl c0).toList = [99, 117, 116] := by rw [bl_list, hc]; decide
    have q2 : ¬ (bl c0).toList = [98, 114, 97, 110, 99, 104] := by rw [bl_list, hc]; decide
    have q3 : ¬ (bl c0).toList = [100, 114, 111, 112] := by rw [bl_list, hc]; decide
    have q4 : (bl c0).toList = [109, 101, 114, 103, 101] := by rw [bl_list, hc]; decide
    have q5 : ¬ (bl c0).toList = [114, 111, 119, 115] := by rw [bl_list, hc]; decide
    have q6 : ¬ (bl c0).toList = [114, 111, 111, 116] := by rw [bl_list, hc]; decide
    have q7 : ¬ (bl c0).toList = [108, 111, 103] := by rw [bl_list, hc]; decide
    have q8 : ¬ (bl c0).toList = [100, 105, 102, 102] := by rw [bl_list, hc]; decide
    have hN := HC0.out.merge h4
    have hn : ((M : Int) - 4 == 3) = false := by rw [beq_eq_false_iff_ne]; have := HM.out; omega
    clear hc h4 hN
    go_wp2
    refine bodyPost_ret (joinResults rfl _ _ _ _ _ _ _ _ rfl rfl rfl (hX.fin hb3 _ _).1) rfl ?_
    exact ⟨_, rfl, PlayedPost.no rfl (by decide), (hX.fin hb3 _ _).2⟩
  by_cases h5 : c0 = wRows
  · have hc := h5
    have q0 : ¬ (bl c0).toList = [112, 117, 116] := by rw [bl_list, hc]; decide
    have q1 : ¬ (bl c0).toList = [99, 117, 116] := by rw [bl_list, hc]; decide
    have q2 : ¬ (bl c0).toList = [98, 114, 97, 110, 99, 104] := by rw [bl_list, hc]; decide
    have q3 : ¬ (bl c0).toList = [100, 114, 111, 112] := by rw [bl_list, hc]; decide
    have q4 : ¬ (bl c0).toList = [109, 101, 114, 103, 101] := by rw [bl_list, hc]; decide
    have q5 : (bl c0).toList = [114, 111, 119, 115] := by rw [bl_list, hc]; decide
    have q6 : ¬ (bl c0).toList = [114, 111, 111, 116] := by rw [bl_list, hc]; decide
    have q7 : ¬ (bl c0).toList = [108, 111, 103] := by rw [bl_list, hc]; decide
    have q8 : ¬ (bl c0).toList = [100, 105, 102, 102] := by rw [bl_list, hc]; decide
    have hN := HC0.out.rows h5
    have hn : ((M : Int) - 4 == 2) = false := by rw [beq_eq_false_iff_ne]; have := HM.out; omega
    clear hc h5 hN
    go_wp2
    refine bodyPost_ret (joinResults rfl _ _ _ _ _ _ _ _ rfl rfl rfl (hX.fin hb3 _ _).1) rfl ?_
    exact ⟨_, rfl, PlayedPost.no rfl (by decide), (hX.fin hb3 _ _).2⟩
  by_cases h6 : c0 = wRoot
  · have hc := h6
    have q0 : ¬ (bl c0).toList = [112, 117, 116] := by rw [bl_list, hc]; decide
    have q1 : ¬ (bl c0).toList = [99, 117, 116] := by rw [bl_list, hc]; decide
    have q2 : ¬ (bl c0).toList = [98, 114, 97, 110, 99, 104] := by rw [bl_list, hc]; decide
    have q3 : ¬ (bl c0).toList = [100, 114, 111, 112] := by rw [bl_list, hc]; decide
    have q4 : ¬ (bl c0).toList = [109, 101, 114, 103, 101] := by rw [bl_list, hc]; decide
    have q5 : ¬ (bl c0).toList = [114, 111, 119, 115] := by rw [bl_list, hc]; decide
    have q6 : (bl c0).toList = [114, 111, 111, 116] := by rw [bl_list, hc]; decide
    have q7 : ¬ (bl c0).toList = [108, 111, 103] := by rw [bl_list, hc]; decide
    have q8 : ¬ (bl c0).toList = [100, 105, 102, 102] := by rw [bl_list, hc]; decide
    have hN := HC0.out.root h6
    have hn : ((M : Int) - 4 == 2) = false := by rw [beq_eq_false_iff_ne]; have := HM.out; omega
    clear hc h6 hN
    go_wp2
    refine bodyPost_ret (joinResults rfl _ _ _ _ _ _ _ _ rfl rfl rfl (hX.fin hb3 _ _).1) rfl ?_
    exact ⟨_, rfl, PlayedPost.no rfl (by decide), (hX.fin hb3 _ _).2⟩
  by_cases h7 : c0 = wLog
  · have hc := h7
    have q0 : ¬ (bl c0).toList = [112, 117, 116] := by rw [bl_list, hc]; decide
    have q1 : ¬ (bl c0).toList = [99, 117, 116] := by rw [bl_list, hc]; decide
    have q2 : ¬ (bl c0).toList = [98, 114, 97, 110, 99, 104] := by rw [bl_list, hc]; decide
    have q3 : ¬ (bl c0).toList = [100, 114, 111, 112] := by rw [bl_list, hc]; decide
    have q4 : ¬ (bl c0).toList = [109, 101, 114, 103, 101] := by rw [bl_list, hc]; decide
    have q5 : ¬ (bl c0).toList = [114, 111, 119, 115] := by rw [bl_list, hc]; decide
    have q6 : ¬ (bl c0).toList = [114, 111, 111, 116] := by rw [bl_list, hc]; decide
    have q7 : (bl c0).toList = [108, 111, 103] := by rw [bl_list, hc]; decide
    have q8 : ¬ (bl c0).toList = [100, 105, 102, 102] := by rw [bl_list, hc]; decide
    have hN := HC0.out.log h7
    have hn : ((M : Int) - 4 == 2) = false := by rw [beq_eq_false_iff_ne]; have := HM.out; omega
    clear hc h7 hN
    go_wp2
    refine bodyPost_ret (joinResults rfl _ _ _ _ _ _ _ _ rfl rfl rfl (hX.fin hb3 _ _).1) rfl ?_
    exact ⟨_, rfl, PlayedPost.no rfl (by decide), (hX.fin hb3 _ _).2⟩
  by_cases h8 : c0 = wDiff
  · have hc := h8
    have q0 : ¬ (bl c0).toList = [112, 117, 116] := by rw [bl_list, hc]; decide
    have q1 : ¬ (bl c0).toList = [99, 117, 116] := by rw [bl_list, hc]; decide
    have q2 : ¬ (bl c0).toList = [98, 114, 97, 110, 99, 104] := by rw [bl_list, hc]; decide
    have q3 : ¬ (bl c0).toList = [100, 114, 111, 112] := by rw [bl_list, hc]; decide
    have q4 : ¬ (bl c0).toList = [109, 101, 114, 103, 101] := by rw [bl_list, hc]; decide
    have q5 : ¬ (bl c0).toList = [114, 111, 119, 115] := by rw [bl_list, hc]; decide
    have q6 : ¬ (bl c0).toList = [114, 111, 111, 116] := by rw [bl_list, hc]; decide
    have q7 : ¬ (bl c0).toList = [108, 111, 103] := by rw [bl_list, hc]; decide
    have q8 : (bl c0).toList = [100, 105, 102, 102] := by rw [bl_list, hc]; decide
    have hN := HC0.out.diff h8
    have hn : ((M : Int) - 4 == 3) = false := by rw [beq_eq_false_iff_ne]; have := HM.out; omega
    clear hc h8 hN
    go_wp2
    refine bodyPost_ret (joinResults rfl _ _ _ _ _ _ _ _ rfl rfl rfl (hX.fin hb3 _ _).1) rfl ?_
    exact ⟨_, rfl, PlayedPost.no rfl (by decide), (hX.fin hb3 _ _).2⟩
  have q0 : ¬ (bl c0).toList = [112, 117, 116] := by rw [bl_list]; exact h0
  have q1 : ¬ (bl c0).toList = [99, 117, 116] := by rw [bl_list]; exact h1
  have q2 : ¬ (bl c0).toList = [98, 114, 97, 110, 99, 104] := by rw [bl_list]; exact h2
  have q3 : ¬ (bl c0).toList = [100, 114, 111, 112] := by rw [bl_list]; exact h3
  have q4 : ¬ (bl c0).toList = [109, 101, 114, 103, 101] := by rw [bl_list]; exact h4
  have q5 : ¬ (bl c0).toList = [114, 111, 119, 115] := by rw [bl_list]; exact h5
  have q6 : ¬ (bl c0).toList = [114, 111, 111, 116] := by rw [bl_list]; exact h6
  have q7 : ¬ (bl c0).toList = [108, 111, 103] := by rw [bl_list]; exact h7
  have q8 : ¬ (bl c0).toList = [100, 105, 102, 102] := by rw [bl_list]; exact h8
  clear h0 h1 h2 h3 h4 h5 h6 h7 h8
  go_wp2
  refine bodyPost_ret (joinResults rfl _ _ _ _ _ _ _ _ rfl rfl rfl (hX.fin hb3 _ _).1) rfl ?_
  exact ⟨_, rfl, PlayedPost.no rfl (by decide), (hX.fin hb3 _ _).2⟩
end Go.Pch
end

section
namespace Go.Pch
open Go.RowKit Go.Proofs
theorem numI_cases (c : Bytes) : (∃ n : Nat, numP c = some n ∧ numI (numP c) = n ∧ (n : Int) ≤ 1000000) ∨ (numP c = none ∧ numI (numP c) = -1) := by
  cases h : numP c with
  | none => exact .inr ⟨rfl, rfl⟩
  | some n => exact .inl ⟨n, rfl, rfl, by have := numP_lt h; omega⟩
theorem refPlayed (v : Value) (r : Repo) (s : Bytes) (hs : s.length ≤ 4096) (hr : repoErr r = 0) (S : Blk) (w : World) (h : Rp w S v r) :
    Calls Tryz.prog 16 #[v, .string (bl s)] w (Ret w (PlayedPost w.heap.size S (wordsO r (spl s)))) := by
  match hL : spl s with
  | [] =>
    obtain ⟨x, xs, hx⟩ := spl_some s
    rw [hx] at hL
    cases hL
  | [a] =>
    have hP : Padded s 1 a [] [] [] := ⟨by rw [hL]; rfl, by rw [hL]; rfl, by rw [hL]; rfl, by rw [hL]; rfl, by rw [hL]; rfl⟩
    exact playedNone v r s hs hr S w h hP rfl rfl ⟨fun _ e => absurd e (by decide), fun _ e => absurd e (by decide), fun _ => by decide, fun _ => by decide, fun _ => by decide, fun _ => by decide, fun _ => by decide, fun _ => by decide, fun _ => by decide⟩
  | [a, b] =>
    have hP : Padded s 2 a b [] [] := ⟨by rw [hL]; rfl, by rw [hL]; rfl, by rw [hL]; rfl, by rw [hL]; rfl, by rw [hL]; rfl⟩
    rw [wordsO2]
    by_cases h1 : a = wDrop
    · rw [if_pos h1]
      exact playedDrop v r s hs hr S w h hP rfl rfl rfl h1
    · rw [if_neg h1]
      by_cases h2 : a = wRows
      · rw [if_pos h2]
        exact playedRows v r s hs hr S w h hP rfl rfl rfl h2
      · rw [if_neg h2]
        by_cases h3 : a = wRoot
        · rw [if_pos h3]
          exact playedRoot v r s hs hr S w h hP rfl rfl rfl h3
        · rw [if_neg h3]
          by_cases h4 : a = wLog
          · rw [if_pos h4]
            exact playedLog v r s hs hr S w h hP rfl rfl rfl h4
          · rw [if_neg h4]
            exact playedNone v r s hs hr S w h hP rfl rfl ⟨fun _ e => absurd e (by decide), fun _ e => absurd e (by decide), fun _ => by decide, fun e => absurd e h1, fun _ => by decide, fun e => absurd e h2, fun e => absurd e h3, fun e => absurd e h4, fun _ => by decide⟩
  | [a, b, c] =>
    have hP : Padded s 3 a b c [] := ⟨by rw [hL]; rfl, by rw [hL]; rfl, by rw [hL]; rfl, by rw [hL]; rfl, by rw [hL]; rfl⟩
    rw [wordsO3]
    by_cases h1 : a = wCut
    · rw [if_pos h1]
      rcases numI_cases c with ⟨n, hn, hi, hm⟩ | ⟨hn, hi⟩
      · have e : cutO r b c = okO (chgP r b n (-1)) := by rw [cutO, hn]
        rw [e]
        exact playedCut v r s hs hr S w h hP hi rfl rfl (by omega) hm h1
      · have e : cutO r b c = noO 1 := by rw [cutO, hn]
        rw [e]
        subst h1
        exact playedNone v r s hs hr S w h hP hi rfl ⟨fun _ e => absurd e (by decide), fun _ _ => by decide, fun e => absurd e (by decide), fun _ => by decide, fun e => absurd e (by decide), fun _ => by decide, fun _ => by decide, fun _ => by decide, fun e => absurd e (by decide)⟩
    · rw [if_neg h1]
      by_cases h2 : a = wBranch
      · rw [if_pos h2]
        exact playedBranch v r s hs hr S w h hP rfl rfl rfl h2
      · rw [if_neg h2]
        by_cases h3 : a = wMerge
        · rw [if_pos h3]
          exact playedMerge v r s hs hr S w h hP rfl rfl rfl h3
        · rw [if_neg h3]
          by_cases h4 : a = wDiff
          · rw [if_pos h4]
            exact playedDiff v r s hs hr S w h hP rfl rfl rfl h4
          · rw [if_neg h4]
            exact playedNone v r s hs hr S w h hP rfl rfl ⟨fun _ e => absurd e (by decide), fun e => absurd e h1, fun e => absurd e h2, fun _ => by decide, fun e => absurd e h3, fun _ => by decide, fun _ => by decide, fun _ => by decide, fun e => absurd e h4⟩
  | [a, b, c, d] =>
    have hP : Padded s 4 a b c d := ⟨by rw [hL]; rfl, by rw [hL]; rfl, by rw [hL]; rfl, by rw [hL]; rfl, by rw [hL]; rfl⟩
    rw [wordsO4]
    by_cases h1 : a = wPut
    · rw [if_pos h1]
      rcases numI_cases c with ⟨n, hn, hi, hm⟩ | ⟨hn, hi⟩
      · rcases numI_cases d with ⟨n', hn', hi', hm'⟩ | ⟨hn', hi'⟩
        · have e : putO r b c d = okO (chgP r b n n') := by rw [putO, hn, hn']
          rw [e]
          exact playedPut v r s hs hr S w h hP hi hi' rfl (by omega) hm (by omega) hm' h1
        · have e : putO r b c d = noO 1 := by rw [putO, hn, hn']
          rw [e]
          subst h1
          exact playedNone v r s hs hr S w h hP hi hi' ⟨fun _ _ _ => by decide, fun e => absurd e (by decide), fun _ => by decide, fun _ => by decide, fun _ => by decide, fun _ => by decide, fun _ => by decide, fun _ => by decide, fun _ => by decide⟩
      · have e : putO r b c d = noO 1 := by rw [putO, hn]
        rw [e]
        subst h1
        exact playedNone v r s hs hr S w h hP hi rfl ⟨fun _ _ e => absurd e (by decide), fun e => absurd e (by decide), fun _ => by decide, fun _ => by decide, fun _ => by decide, fun _ => by decide, fun _ => by decide, fun _ => by decide, fun _ => by decide⟩
    · rw [if_neg h1]
      exact playedNone v r s hs hr S w h hP rfl rfl ⟨fun e => absurd e h1, fun _ e => absurd e (by decide), fun _ => by decide, fun _ => by decide, fun _ => by decide, fun _ => by decide, fun _ => by decide, fun _ => by decide, fun _ => by decide⟩
  | a :: b :: c :: d :: e :: l =>
    have hP : Padded s (l.length + 5) a b c d := ⟨by rw [hL]; rfl, by rw [hL]; rfl, by rw [hL]; rfl, by rw [hL]; rfl, by rw [hL]; rfl⟩
    exact playedNone v r s hs hr S w h hP rfl rfl ⟨fun _ e => by omega, fun _ e => by omega, fun _ => by omega, fun _ => by omega, fun _ => by omega, fun _ => by omega, fun _ => by omega, fun _ => by omega, fun _ => by omega⟩
end Go.Pch
end
