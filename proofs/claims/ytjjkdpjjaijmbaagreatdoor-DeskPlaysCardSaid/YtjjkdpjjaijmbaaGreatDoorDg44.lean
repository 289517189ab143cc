/- The document's desk: a line: root. (gen_dmc.py) The document's desk: a line: log. (gen_dmc.py) The walks of package desk: the words. (gen_dkm.py) The walks of package desk: a line. -/
import Derived.Test.YtjjkdpjjaijmbaaGreatDoorDg39
import Derived.Test.YtjjkdpjjaijmbaaGreatDoorDg43
import Derived.WideMake
import Derived.StringKeys
import Derived.Test.YtjjkdpjjaijmbaaGreatDoorDg37
import Derived.Defers
import Derived.Recover
import Derived.Laws.Pointers
import Derived.Lib.Split
import Derived.Lib.SplitLaws
import Derived.Lib.CountLaws
section
namespace Go.Pch
open Go.RowKit Go.Proofs
set_option maxRecDepth 100000
set_option linter.unusedVariables false
set_option maxHeartbeats 4000000 in
theorem playedRoot (v : Value) (r : Repo) (s : Bytes) (hs : s.length ≤ 4096) (hr : repoErr r = 0) (S : Blk) (w : World) (h : Rp w S v r) {N : Nat} {c0 c1 c2 c3 : Bytes} (hP : Padded s N c0 c1 c2 c3) {k2 k3 : Int} (hk2 : numI (numP c2) = k2) (hk3 : numI (numP c3) = k3) (hlen : N = 2) (hw : c0 = wRoot) :
    Calls Tryz.prog 16 #[v, .string (bl s)] w (Ret w (PlayedPost w.heap.size S (rootO r (hdRows r c1)))) := by
  obtain ⟨p, hp⟩ : ∃ p, p = hdRows r c1 := ⟨_, rfl⟩
  rw [← hp]
  have HP := keepBack hp
  clear hp
  have hR := h
  have HK2 := keepBack hk2
  have HK3 := keepBack hk3
  clear hk2 hk3
  have hl2 := Nat.le_trans (pad_short s _ _ hP.w2) hs
  have hl3 := Nat.le_trans (pad_short s _ _ hP.w3) hs
  have HC0 := keepBack hw
  clear hw
  have HLEN := keepBack hlen
  clear hlen
  obtain ⟨vc, vh, rfl, hc, hh⟩ := h
  obtain ⟨ac, cc, hvc, _, _, _⟩ := hc.shape
  obtain ⟨ah, ch, hvh, _, _, _⟩ := hh.shape
  obtain ⟨nc, hnc⟩ : ∃ n, n = r.1.length := ⟨_, rfl⟩
  obtain ⟨nh, hnh⟩ : ∃ n, n = r.2.length := ⟨_, rfl⟩
  rw [← hnc] at hvc
  rw [← hnh] at hvh
  clear hnc hnh
  subst hvc hvh
  clear hc hh
  have hX := boxAt w (.slice ac nc cc) (.slice ah nh ch)
  obtain ⟨wB, hwB⟩ : ∃ wB, wB = (w.alloc (.cells #[.slice ac nc cc, .slice ah nh ch] 33)).alloc (.cells #[.slice none 0 0, .slice none 0 0] 33) := ⟨_, rfl⟩
  rw [← hwB] at hX
  have HWB := keepBack hwB
  clear hwB
  have HZB := keepBack hX.size
  go_enter Tryz.func16, Tryz.ntmps16
  go_wp2_with fail
  rw [← HWB.out]
  refine (refSplit s hs wB).mono ?_; rintro e w1 ⟨_, rfl, ho, b1⟩
  obtain ⟨ag, cg, hv, _, _⟩ := ho.shape
  rw [List.length_map, hP.len] at hv
  have hNs : N ≤ 4097 := by rw [← hP.len, spl_len]; have := List.count_le_length (a := (32 : UInt8)) (l := s); omega
  have hN1 : 1 ≤ N := by rw [← hP.len, spl_len]; omega
  subst hv
  have hob := ho.block
  have z1 := b1.size
  have hsrc := srcEmpty w1 (fun _ => False)
  go_wp2_with (at_builtin; refine wpList_grow rfl (.tmp 37) (.tmp 38) rfl aStr rfl (ho.alloc _) rfl rfl hsrc (by simp) (fun _ h => h.elim) (by rw [List.length_map, hP.len]; simp only [List.length_cons, List.length_nil]; omega) (by simp; omega) ?_)
  intro v2 w2 ho2 hg2
  have hb2 : Below wB.heap.size wB w2 := (b1.alloc (by have := b1.size; omega) _).grown hg2 (by have := b1.size; simp; omega) (fun g hg => (hob g hg).1)
  clear hsrc hg2 hob
  have hsl : Sl tStr w2 (fun k => wB.heap.size ≤ k) v2 ((spl s ++ [[], [], [], []]).map bl) := by rw [List.map_append]; exact ho2.sl (fun _ h => h.elim) (fun _ h => h)
  clear ho2 ho
  obtain ⟨⟨a2, g2, hv⟩, x0, o0, x1, o1, x2, o2, x3, o3, hA⟩ := padAt hP hsl
  clear hsl
  have hN : N = 2 := HLEN.out
  subst hN
  replace hv : v2 = .slice a2 6 g2 := hv
  subst hv
  clear hNs hN1
  have i0 := hA.i0
  have i1 := hA.i1
  have i2 := hA.i2
  have i3 := hA.i3
  have HA := keepBack hA
  have KS : Hid (∀ W, Below w2.heap.size w2 W → Below w2.heap.size w2 W ∧ W.cell? ⟨x2, o2, none⟩ = some (.string (bl c2)) ∧ W.cell? ⟨x3, o3, none⟩ = some (.string (bl c3))) := keepBack fun W hW => ⟨hW, (hA.call hW).e2, (hA.call hW).e3⟩
  clear hA
  go_wp2_with fail
  go_region_held3 (fun W => Below w2.heap.size w2 W ∧ W.cell? ⟨x2, o2, none⟩ = some (.string (bl c2)) ∧ W.cell? ⟨x3, o3, none⟩ = some (.string (bl c3)))
    (first
      | exact KS.out _ (by assumption)
      | exact KS.out _ (Below.refl _ _)
      | exact KS.out _ (Below.refl _ _).drew
      | exact KS.out _ (Below.drew (by assumption))
      | fail)
    (first
      | (go_at_call 32; refine (refNum _ (by first | exact hl2 | exact hl3) _).mono ?_; rintro e w3 ⟨_, rfl, rfl, b3⟩; have cB : Below w2.heap.size w2 w3 := below_onD (by first | assumption | exact (Below.refl _ _).drew | exact Below.refl _ _ | exact Below.drew (by assumption)) b3)
      | fail)
  have hl1 := Nat.le_trans (pad_short s _ _ hP.w1) hs
  clear KS hl2 hl3
  rw [HK2.out, HK3.out]
  have b23 : Below w2.heap.size w2 w3 := by assumption
  have hb3 := hb2.trans (b23.mono hb2.size)
  have hA3 := HA.out.call b23
  have e0 := hA3.e0
  have e1 := hA3.e1
  have e2 := hA3.e2
  have e3 := hA3.e3
  have HA3 := keepBack hA3
  clear hA3
  obtain ⟨y0, y1, y2, y3, yf⟩ := hX.on hb3
  clear b1 hb2
  have q0 : ¬ (bl c0).toList = [112, 117, 116] := by rw [bl_list, HC0.out]; decide
  have q1 : ¬ (bl c0).toList = [99, 117, 116] := by rw [bl_list, HC0.out]; decide
  have q2 : ¬ (bl c0).toList = [98, 114, 97, 110, 99, 104] := by rw [bl_list, HC0.out]; decide
  have q3 : ¬ (bl c0).toList = [100, 114, 111, 112] := by rw [bl_list, HC0.out]; decide
  have q4 : ¬ (bl c0).toList = [109, 101, 114, 103, 101] := by rw [bl_list, HC0.out]; decide
  have q5 : ¬ (bl c0).toList = [114, 111, 119, 115] := by rw [bl_list, HC0.out]; decide
  have q6 : (bl c0).toList = [114, 111, 111, 116] := by rw [bl_list, HC0.out]; decide
  have hR3 : Rp w3 S (.agg #[.slice ac nc cc, .slice ah nh ch]) r := hR.call (hX.low.trans (hb3.mono (by rw [HZB.out]; omega)))
  have KR : ∀ W, Below w3.heap.size w3 W → Below w3.heap.size w3 W ∧ W.cell? ⟨w.heap.size, 0, none⟩ = some (.slice ac nc cc) ∧ W.cell? ⟨w.heap.size, 1, none⟩ = some (.slice ah nh ch) ∧ W.cell? ⟨x1, o1, none⟩ = some (.string (bl c1)) ∧ W.cell? ⟨x2, o2, none⟩ = some (.string (bl c2)) := fun W hW => by
    obtain ⟨u0, u1, _, _, _⟩ := hX.on (hb3.trans (hW.mono hb3.size))
    have hu := HA3.out.call hW
    exact ⟨hW, u0, u1, hu.e1, hu.e2⟩
  have T : ∀ W, Below w3.heap.size w3 W → Calls Tryz.prog 38 #[.agg #[.slice ac nc cc, .slice ah nh ch], .string (bl c1)] W (Ret W fun x w' => ∃ y, x = .tuple #[y, .int .i64 p.2] ∧ Sl tRow w' S y p.1) := fun W hW => by
    rw [HP.out]
    exact refRowsAt _ r c1 S W (hR3.call hW)
  have hok : rowsErr p.1 = 0 := by rw [HP.out]; exact hdRows_ok hr c1
  go_wp2_with fail
  go_region_held3 (fun W => Below w3.heap.size w3 W ∧ W.cell? ⟨w.heap.size, 0, none⟩ = some (.slice ac nc cc) ∧ W.cell? ⟨w.heap.size, 1, none⟩ = some (.slice ah nh ch) ∧ W.cell? ⟨x1, o1, none⟩ = some (.string (bl c1)) ∧ W.cell? ⟨x2, o2, none⟩ = some (.string (bl c2)))
    (first
      | exact KR _ (by assumption)
      | exact KR _ (Below.refl _ _)
      | exact KR _ (Below.refl _ _).drew
      | exact KR _ (Below.drew (by assumption))
      | fail)
    (first
      | (go_at_call 38; refine (T _ (by first | assumption | exact (Below.refl _ _).drew | exact Below.refl _ _ | exact Below.drew (by assumption))).mono ?_; rintro e w4 ⟨_, rfl, ⟨y, rfl, hy⟩, b4⟩; obtain ⟨al, cl, hal, _, _, _⟩ := hy.shape; obtain ⟨n, hn⟩ : ∃ n, n = p.1.length := ⟨_, rfl⟩; rw [← hn] at hal; have HNL := keepBack hn; clear hn; subst hal; have b34 : Below w3.heap.size w3 w4 := below_onD (by first | assumption | exact (Below.refl _ _).drew | exact Below.refl _ _ | exact Below.drew (by assumption)) b4)
      | fail)
  have b5 := hb3.trans (b34.mono hb3.size)
  obtain ⟨z0, z1, z2, z3, zf⟩ := hX.on b5
  clear T y0 y1 y2 y3 yf e0 e1 e2 e3 i0 i1 i2 i3
  by_cases hz : p.2 = 0
  · have HO : Hid (rootO r p = (r, dgL (topL (treeL p.1)), 0)) := keepBack (if_pos hz)
    have hcd : Below w4.heap.size w4 w4.drew := (Below.refl _ _).drew
    have htop := topL_le (treeL p.1)
    have hbld : ∀ W, Below w4.heap.size w4 W → Calls Tryz.prog 41 #[.slice al n cl] W (Ret W fun r w' => Sl tRow.slice.slice w' (fun k => W.heap.size ≤ k) r (treeL p.1)) := fun W hW => refBuild _ p.1 _ W (hy.call hW) hok
    have htr := treeErr_tree hok
    generalize treeL p.1 = t at *
    go_wp2_with fail
    go_region_law (first
      | (go_simp; go_at_call 41; refine (hbld _ (by first | exact Below.refl _ _ | exact hcd)).mono ?_; rintro e w6 ⟨_, rfl, ht, b6⟩; obtain ⟨at', ct, hat, _, _, _⟩ := ht.shape; obtain ⟨nt, hnt⟩ : ∃ n, n = t.length := ⟨_, rfl⟩; rw [← hnt] at hat; have HNT := keepBack hnt; clear hnt; subst hat; have b7 : Below w4.heap.size w4 w6 := (by first | exact b6 | exact hcd.trans b6); have b8 := b5.trans (b7.mono b5.size); obtain ⟨v0, v1, v2, v3, vf⟩ := hX.on b8)
      | (go_simp; go_at_call 40; refine (refRootOf _ t _ w6 ht htr).mono ?_; rintro e w7 ⟨rfl, d7⟩; have b9 := b8.trans (d7.below.mono b8.size); obtain ⟨u0, u1, u2, u3, uf⟩ := hX.on b9)
      | (go_simp; go_at_call 17; refine (refDigits (topL t) w7 (by unfold i64ok; omega)).mono ?_; rintro e w8 ⟨_, rfl, rfl, b10⟩; have b11 := b9.trans (b10.mono b9.size); obtain ⟨r0, r1, r2, r3, rf⟩ := hX.on b11)
      | fail)
    all_goals
      clear z0 z1 z2 z3 zf v0 v1 v2 v3 vf u0 u1 u2 u3 uf
      go_wp2
      refine bodyPost_ret (joinResults rfl _ _ _ _ _ _ _ _ rfl rfl rfl (hX.fin b11 _ _).1) rfl ?_
      refine ⟨_, rfl, ?_, (hX.fin b11 _ _).2⟩
      unfold PlayedPost
      rw [HO.out]
      exact ⟨_, _, _, _, _, _, _, rfl, fun _ => ⟨rfl, (hR.call (hX.fin b11 _ _).2).more fun k hk _ => .inl hk⟩⟩
  · have HO : Hid (rootO r p = noO p.2) := keepBack (if_neg hz)
    have hne : (p.2 != 0) = true := by simp [hz]
    go_wp2
    refine bodyPost_ret (joinResults rfl _ _ _ _ _ _ _ _ rfl rfl rfl (hX.fin b5 _ _).1) rfl ?_
    refine ⟨_, rfl, ?_, (hX.fin b5 _ _).2⟩
    exact PlayedPost.no (by rw [HO.out]; rfl) hz
end Go.Pch
end

section
namespace Go.Pch
open Go.RowKit Go.Proofs
set_option maxRecDepth 100000
set_option linter.unusedVariables false
set_option maxHeartbeats 4000000 in
theorem playedLog (v : Value) (r : Repo) (s : Bytes) (hs : s.length ≤ 4096) (hr : repoErr r = 0) (S : Blk) (w : World) (h : Rp w S v r) {N : Nat} {c0 c1 c2 c3 : Bytes} (hP : Padded s N c0 c1 c2 c3) {k2 k3 : Int} (hk2 : numI (numP c2) = k2) (hk3 : numI (numP c3) = k3) (hlen : N = 2) (hw : c0 = wLog) :
    Calls Tryz.prog 16 #[v, .string (bl s)] w (Ret w (PlayedPost w.heap.size S (logO r (logP r (bl c1))))) := by
  obtain ⟨p, hp⟩ : ∃ p, p = logP r (bl c1) := ⟨_, rfl⟩
  rw [← hp]
  have HP := keepBack hp
  clear hp
  have hR := h
  have HK2 := keepBack hk2
  have HK3 := keepBack hk3
  clear hk2 hk3
  have hl2 := Nat.le_trans (pad_short s _ _ hP.w2) hs
  have hl3 := Nat.le_trans (pad_short s _ _ hP.w3) hs
  have HC0 := keepBack hw
  clear hw
  have HLEN := keepBack hlen
  clear hlen
  obtain ⟨vc, vh, rfl, hc, hh⟩ := h
  obtain ⟨ac, cc, hvc, _, _, _⟩ := hc.shape
  obtain ⟨ah, ch, hvh, _, _, _⟩ := hh.shape
  obtain ⟨nc, hnc⟩ : ∃ n, n = r.1.length := ⟨_, rfl⟩
  obtain ⟨nh, hnh⟩ : ∃ n, n = r.2.length := ⟨_, rfl⟩
  rw [← hnc] at hvc
  rw [← hnh] at hvh
  clear hnc hnh
  subst hvc hvh
  clear hc hh
  have hX := boxAt w (.slice ac nc cc) (.slice ah nh ch)
  obtain ⟨wB, hwB⟩ : ∃ wB, wB = (w.alloc (.cells #[.slice ac nc cc, .slice ah nh ch] 33)).alloc (.cells #[.slice none 0 0, .slice none 0 0] 33) := ⟨_, rfl⟩
  rw [← hwB] at hX
  have HWB := keepBack hwB
  clear hwB
  have HZB := keepBack hX.size
  go_enter Tryz.func16, Tryz.ntmps16
  go_wp2_with fail
  rw [← HWB.out]
  refine (refSplit s hs wB).mono ?_; rintro e w1 ⟨_, rfl, ho, b1⟩
  obtain ⟨ag, cg, hv, _, _⟩ := ho.shape
  rw [List.length_map, hP.len] at hv
  have hNs : N ≤ 4097 := by rw [← hP.len, spl_len]; have := List.count_le_length (a := (32 : UInt8)) (l := s); omega
  have hN1 : 1 ≤ N := by rw [← hP.len, spl_len]; omega
  subst hv
  have hob := ho.block
  have z1 := b1.size
  have hsrc := srcEmpty w1 (fun _ => False)
  go_wp2_with (at_builtin; refine wpList_grow rfl (.tmp 37) (.tmp 38) rfl aStr rfl (ho.alloc _) rfl rfl hsrc (by simp) (fun _ h => h.elim) (by rw [List.length_map, hP.len]; simp only [List.length_cons, List.length_nil]; omega) (by simp; omega) ?_)
  intro v2 w2 ho2 hg2
  have hb2 : Below wB.heap.size wB w2 := (b1.alloc (by have := b1.size; omega) _).grown hg2 (by have := b1.size; simp; omega) (fun g hg => (hob g hg).1)
  clear hsrc hg2 hob
  have hsl : Sl tStr w2 (fun k => wB.heap.size ≤ k) v2 ((spl s ++ [[], [], [], []]).map bl) := by rw [List.map_append]; exact ho2.sl (fun _ h => h.elim) (fun _ h => h)
  clear ho2 ho
  obtain ⟨⟨a2, g2, hv⟩, x0, o0, x1, o1, x2, o2, x3, o3, hA⟩ := padAt hP hsl
  clear hsl
  have hN : N = 2 := HLEN.out
  subst hN
  replace hv : v2 = .slice a2 6 g2 := hv
  subst hv
  clear hNs hN1
  have i0 := hA.i0
  have i1 := hA.i1
  have i2 := hA.i2
  have i3 := hA.i3
  have HA := keepBack hA
  have KS : Hid (∀ W, Below w2.heap.size w2 W → Below w2.heap.size w2 W ∧ W.cell? ⟨x2, o2, none⟩ = some (.string (bl c2)) ∧ W.cell? ⟨x3, o3, none⟩ = some (.string (bl c3))) := keepBack fun W hW => ⟨hW, (hA.call hW).e2, (hA.call hW).e3⟩
  clear hA
  go_wp2_with fail
  go_region_held3 (fun W => Below w2.heap.size w2 W ∧ W.cell? ⟨x2, o2, none⟩ = some (.string (bl c2)) ∧ W.cell? ⟨x3, o3, none⟩ = some (.string (bl c3)))
    (first
      | exact KS.out _ (by assumption)
      | exact KS.out _ (Below.refl _ _)
      | exact KS.out _ (Below.refl _ _).drew
      | exact KS.out _ (Below.drew (by assumption))
      | fail)
    (first
      | (go_at_call 32; refine (refNum _ (by first | exact hl2 | exact hl3) _).mono ?_; rintro e w3 ⟨_, rfl, rfl, b3⟩; have cB : Below w2.heap.size w2 w3 := below_onD (by first | assumption | exact (Below.refl _ _).drew | exact Below.refl _ _ | exact Below.drew (by assumption)) b3)
      | fail)
  have hl1 := Nat.le_trans (pad_short s _ _ hP.w1) hs
  clear KS hl2 hl3
  rw [HK2.out, HK3.out]
  have b23 : Below w2.heap.size w2 w3 := by assumption
  have hb3 := hb2.trans (b23.mono hb2.size)
  have hA3 := HA.out.call b23
  have e0 := hA3.e0
  have e1 := hA3.e1
  have e2 := hA3.e2
  have e3 := hA3.e3
  have HA3 := keepBack hA3
  clear hA3
  obtain ⟨y0, y1, y2, y3, yf⟩ := hX.on hb3
  clear b1 hb2
  have q0 : ¬ (bl c0).toList = [112, 117, 116] := by rw [bl_list, HC0.out]; decide
  have q1 : ¬ (bl c0).toList = [99, 117, 116] := by rw [bl_list, HC0.out]; decide
  have q2 : ¬ (bl c0).toList = [98, 114, 97, 110, 99, 104] := by rw [bl_list, HC0.out]; decide
  have q3 : ¬ (bl c0).toList = [100, 114, 111, 112] := by rw [bl_list, HC0.out]; decide
  have q4 : ¬ (bl c0).toList = [109, 101, 114, 103, 101] := by rw [bl_list, HC0.out]; decide
  have q5 : ¬ (bl c0).toList = [114, 111, 119, 115] := by rw [bl_list, HC0.out]; decide
  have q6 : ¬ (bl c0).toList = [114, 111, 111, 116] := by rw [bl_list, HC0.out]; decide
  have q7 : (bl c0).toList = [108, 111, 103] := by rw [bl_list, HC0.out]; decide
  have hR3 : Rp w3 S (.agg #[.slice ac nc cc, .slice ah nh ch]) r := hR.call (hX.low.trans (hb3.mono (by rw [HZB.out]; omega)))
  have KR : ∀ W, Below w3.heap.size w3 W → Below w3.heap.size w3 W ∧ W.cell? ⟨w.heap.size, 0, none⟩ = some (.slice ac nc cc) ∧ W.cell? ⟨w.heap.size, 1, none⟩ = some (.slice ah nh ch) ∧ W.cell? ⟨x1, o1, none⟩ = some (.string (bl c1)) ∧ W.cell? ⟨x2, o2, none⟩ = some (.string (bl c2)) := fun W hW => by
    obtain ⟨u0, u1, _, _, _⟩ := hX.on (hb3.trans (hW.mono hb3.size))
    have hu := HA3.out.call hW
    exact ⟨hW, u0, u1, hu.e1, hu.e2⟩
  have T : ∀ W, Below w3.heap.size w3 W → Calls Tryz.prog 42 #[.agg #[.slice ac nc cc, .slice ah nh ch], .string (bl c1)] W (Ret W fun x w' => ∃ y, x = .tuple #[y, .int .i64 p.2] ∧ Sl tInt w' (fun k => W.heap.size ≤ k) y p.1) := fun W hW => by
    rw [HP.out]
    exact refLogOf _ r (bl c1) S W (hR3.call hW)
  have hkeys : p.1.length ≤ 1000 := by
    rw [HP.out, logP]
    split
    · exact (logL_fine hr _).1
    · simp
  go_wp2_with fail
  go_region_held3 (fun W => Below w3.heap.size w3 W ∧ W.cell? ⟨w.heap.size, 0, none⟩ = some (.slice ac nc cc) ∧ W.cell? ⟨w.heap.size, 1, none⟩ = some (.slice ah nh ch) ∧ W.cell? ⟨x1, o1, none⟩ = some (.string (bl c1)) ∧ W.cell? ⟨x2, o2, none⟩ = some (.string (bl c2)))
    (first
      | exact KR _ (by assumption)
      | exact KR _ (Below.refl _ _)
      | exact KR _ (Below.refl _ _).drew
      | exact KR _ (Below.drew (by assumption))
      | fail)
    (first
      | (go_at_call 42; refine (T _ (by first | assumption | exact (Below.refl _ _).drew | exact Below.refl _ _ | exact Below.drew (by assumption))).mono ?_; rintro e w4 ⟨_, rfl, ⟨y, rfl, hy⟩, b4⟩; obtain ⟨al, cl, hal, _, _, _⟩ := hy.shape; obtain ⟨n, hn⟩ : ∃ n, n = p.1.length := ⟨_, rfl⟩; rw [← hn] at hal; have HNL := keepBack hn; clear hn; subst hal; have b34 : Below w3.heap.size w3 w4 := below_onD (by first | assumption | exact (Below.refl _ _).drew | exact Below.refl _ _ | exact Below.drew (by assumption)) b4)
      | fail)
  have b5 := hb3.trans (b34.mono hb3.size)
  obtain ⟨z0, z1, z2, z3, zf⟩ := hX.on b5
  clear T y0 y1 y2 y3 yf e0 e1 e2 e3 i0 i1 i2 i3
  have hy4 : Sl tInt w4 (fun _ => True) (.slice al n cl) p.1 := hy.any
  have hcd : Below w4.heap.size w4 w4.drew := (Below.refl _ _).drew
  go_wp2_with fail
  go_region_law (first
    | (go_simp; go_at_call 37; refine (refListed _ p.1 _ _ (by first | exact hy4 | exact hy4.call hcd) hkeys).mono ?_; rintro e w6 ⟨_, rfl, rfl, b6⟩; have b7 : Below w4.heap.size w4 w6 := (by first | exact b6 | exact hcd.trans b6); have b8 := b5.trans (b7.mono b5.size); obtain ⟨v0, v1, v2, v3, vf⟩ := hX.on b8)
    | fail)
  all_goals
    clear z0 z1 z2 z3 zf
    go_wp2
    refine bodyPost_ret (joinResults rfl _ _ _ _ _ _ _ _ rfl rfl rfl (hX.fin b8 _ _).1) rfl ?_
    refine ⟨_, rfl, ?_, (hX.fin b8 _ _).2⟩
    by_cases hz : p.2 = 0
    · have HO : logO r p = (r, lsL (p.1.map dgL), 0) := if_pos hz
      unfold PlayedPost
      rw [HO, ← hz]
      exact ⟨_, _, _, _, _, _, _, rfl, fun _ => ⟨rfl, (hR.call (hX.fin b8 _ _).2).more fun k hk _ => .inl hk⟩⟩
    · have HO : logO r p = noO p.2 := if_neg hz
      exact PlayedPost.no (by rw [HO]; rfl) hz
end Go.Pch
end

section
namespace Go.Pch
open Go.RowKit Go.Proofs
set_option maxRecDepth 100000
theorem mapPut {P : Program} {w : World} {mty kt et : TypeId} {M k : Nat} {l l' : List MapEntry} {s : ByteArray} {v : Value} (hm : P.underlying mty = some (.map kt et)) (hk : P.underlying kt = some .string) (hb : w.heap[M]? = some (.map l.toArray k))
    (hf : Instr.findNow .string (.string s) l 0 = some none) (hl : l' = l ++ [⟨.string s, v, k⟩]) :
    ∃ w', Sem.run P (Instr.mapUpdate mty (.map (some M)) (.string s) v) w = .ok () w' ∧ w'.heap[M]? = some (.map l'.toArray (k + 1)) ∧ Step (fun i => i = M) w w' := by
  have hc : (Instr.checkKey false 10000 kt (.string s)).run P w = .ok () w := MapKept.run_checkKey (k := .string s) hk (by simp [MapKept.IsKey]) false 9999
  have hfk := MapKept.run_findKey (w := w) hk hf
  refine ⟨{ w with heap := w.heap.setIfInBounds M (.map (l.toArray.push ⟨.string s, v, k⟩) (k + 1)) }, ?_, ?_, ?_⟩
  · simp [Instr.mapUpdate, run_underlying hm, MapKept.run_getObj_map hb, hc, hfk, MapKept.run_setObj_map _ hb, Result.andThen]
  · have := (MapKept.heap_set (o' := .map (l.toArray.push ⟨.string s, v, k⟩) (k + 1)) hb).1
    simpa [hl] using this
  · refine ⟨rfl, rfl, rfl, by simp, fun i hi hn => ?_⟩
    exact (MapKept.heap_set (o' := .map (l.toArray.push ⟨.string s, v, k⟩) (k + 1)) hb).2 i hn
def wordV (n : Int) (f : FuncId) (cb : Nat) : Value := .agg #[.int .i64 n, .func (.func f) #[] #[.pointer (some ⟨cb, 0, none⟩)]]
def wordsL (cb : Nat) : List MapEntry := [⟨.string (bl wPut), wordV 3 49 cb, 0⟩, ⟨.string (bl wCut), wordV 2 52 cb, 1⟩, ⟨.string (bl wBranch), wordV 2 53 cb, 2⟩, ⟨.string (bl wDrop), wordV 1 56 cb, 3⟩, ⟨.string (bl wMerge), wordV 2 58 cb, 4⟩, ⟨.string (bl wRows), wordV 1 60 cb, 5⟩, ⟨.string (bl wRoot), wordV 1 65 cb, 6⟩, ⟨.string (bl wLog), wordV 1 68 cb, 7⟩, ⟨.string (bl wDiff), wordV 2 71 cb, 8⟩]
def WordsPost (T : Nat) (w : World) (e : Ending) (w' : World) : Prop := ∃ M cb, e = .returned (.map (some M)) ∧ Held w' cb T ∧ w'.heap[M]? = some (.map (wordsL cb).toArray 9) ∧ Below w.heap.size w w'
set_option maxHeartbeats 1000000 in
theorem deskWords (T : Nat) (w : World) :
    Calls Tryz.prog 28 #[.pointer (some ⟨T, 0, none⟩)] w (WordsPost T w) := by
  obtain ⟨w1, hw1⟩ : ∃ w1, w1 = w.alloc (.cells #[.pointer (some ⟨T, 0, none⟩)] 29) := ⟨_, rfl⟩
  have e1 : w1.heap.size = w.heap.size + 1 := by rw [hw1]; simp
  have hc1 : w1.heap[w.heap.size]? = some (.cells #[.pointer (some ⟨T, 0, none⟩)] 29) := by rw [hw1]; exact heap_alloc_new w _
  have b1 : Below w.heap.size w w1 := by rw [hw1]; exact (Below.refl _ _).alloc (Nat.le_refl _) _
  have b2 : Below w.heap.size w (w1.alloc (.map #[] 0)) := b1.alloc b1.size _
  have m0 : (w1.alloc (.map #[] 0)).heap[w.heap.size + 1]? = some (.map ((wordsL w.heap.size).take 0).toArray 0) := by rw [← e1]; exact heap_alloc_new w1 _
  have hc2 : (w1.alloc (.map #[] 0)).heap[w.heap.size]? = some (.cells #[.pointer (some ⟨T, 0, none⟩)] 29) := (heap_alloc_old w1 _ (by omega)).trans hc1
  obtain ⟨w2, hw2⟩ : ∃ w2, w2 = w1.alloc (.map #[] 0) := ⟨_, rfl⟩
  rw [← hw2] at b2 m0 hc2
  obtain ⟨x1, r1, m1, s1⟩ := mapPut (P := Tryz.prog) (mty := 71) (l' := (wordsL w.heap.size).take 1) (v := wordV 3 49 w.heap.size) (s := bl wPut) rfl rfl m0 (by kernel_rfl) rfl
  replace r1 : Sem.run Tryz.prog (Instr.mapUpdate 71 (.map (some (w.heap.size + 1))) (.string ⟨#[112, 117, 116]⟩) (.agg #[.int .i64 3, .func (.func 49) #[] #[.pointer (some ⟨w.heap.size, 0, none⟩)]])) w2 = .ok () x1 := r1
  obtain ⟨x2, r2, m2, s2⟩ := mapPut (P := Tryz.prog) (mty := 71) (l' := (wordsL w.heap.size).take 2) (v := wordV 2 52 w.heap.size) (s := bl wCut) rfl rfl m1 (by kernel_rfl) rfl
  replace r2 : Sem.run Tryz.prog (Instr.mapUpdate 71 (.map (some (w.heap.size + 1))) (.string ⟨#[99, 117, 116]⟩) (.agg #[.int .i64 2, .func (.func 52) #[] #[.pointer (some ⟨w.heap.size, 0, none⟩)]])) x1 = .ok () x2 := r2
  obtain ⟨x3, r3, m3, s3⟩ := mapPut (P := Tryz.prog) (mty := 71) (l' := (wordsL w.heap.size).take 3) (v := wordV 2 53 w.heap.size) (s := bl wBranch) rfl rfl m2 (by kernel_rfl) rfl
  replace r3 : Sem.run Tryz.prog (Instr.mapUpdate 71 (.map (some (w.heap.size + 1))) (.string ⟨#[98, 114, 97, 110, 99, 104]⟩) (.agg #[.int .i64 2, .func (.func 53) #[] #[.pointer (some ⟨w.heap.size, 0, none⟩)]])) x2 = .ok () x3 := r3
  obtain ⟨x4, r4, m4, s4⟩ := mapPut (P := Tryz.prog) (mty := 71) (l' := (wordsL w.heap.size).take 4) (v := wordV 1 56 w.heap.size) (s := bl wDrop) rfl rfl m3 (by kernel_rfl) rfl
  replace r4 : Sem.run Tryz.prog (Instr.mapUpdate 71 (.map (some (w.heap.size + 1))) (.string ⟨#[100, 114, 111, 112]⟩) (.agg #[.int .i64 1, .func (.func 56) #[] #[.pointer (some ⟨w.heap.size, 0, none⟩)]])) x3 = .ok () x4 := r4
  obtain ⟨x5, r5, m5, s5⟩ := mapPut (P := Tryz.prog) (mty := 71) (l' := (wordsL w.heap.size).take 5) (v := wordV 2 58 w.heap.size) (s := bl wMerge) rfl rfl m4 (by kernel_rfl) rfl
  replace r5 : Sem.run Tryz.prog (Instr.mapUpdate 71 (.map (some (w.heap.size + 1))) (.string ⟨#[109, 101, 114, 103, 101]⟩) (.agg #[.int .i64 2, .func (.func 58) #[] #[.pointer (some ⟨w.heap.size, 0, none⟩)]])) x4 = .ok () x5 := r5
  obtain ⟨x6, r6, m6, s6⟩ := mapPut (P := Tryz.prog) (mty := 71) (l' := (wordsL w.heap.size).take 6) (v := wordV 1 60 w.heap.size) (s := bl wRows) rfl rfl m5 (by kernel_rfl) rfl
  replace r6 : Sem.run Tryz.prog (Instr.mapUpdate 71 (.map (some (w.heap.size + 1))) (.string ⟨#[114, 111, 119, 115]⟩) (.agg #[.int .i64 1, .func (.func 60) #[] #[.pointer (some ⟨w.heap.size, 0, none⟩)]])) x5 = .ok () x6 := r6
  obtain ⟨x7, r7, m7, s7⟩ := mapPut (P := Tryz.prog) (mty := 71) (l' := (wordsL w.heap.size).take 7) (v := wordV 1 65 w.heap.size) (s := bl wRoot) rfl rfl m6 (by kernel_rfl) rfl
  replace r7 : Sem.run Tryz.prog (Instr.mapUpdate 71 (.map (some (w.heap.size + 1))) (.string ⟨#[114, 111, 111, 116]⟩) (.agg #[.int .i64 1, .func (.func 65) #[] #[.pointer (some ⟨w.heap.size, 0, none⟩)]])) x6 = .ok () x7 := r7
  obtain ⟨x8, r8, m8, s8⟩ := mapPut (P := Tryz.prog) (mty := 71) (l' := (wordsL w.heap.size).take 8) (v := wordV 1 68 w.heap.size) (s := bl wLog) rfl rfl m7 (by kernel_rfl) rfl
  replace r8 : Sem.run Tryz.prog (Instr.mapUpdate 71 (.map (some (w.heap.size + 1))) (.string ⟨#[108, 111, 103]⟩) (.agg #[.int .i64 1, .func (.func 68) #[] #[.pointer (some ⟨w.heap.size, 0, none⟩)]])) x7 = .ok () x8 := r8
  obtain ⟨x9, r9, m9, s9⟩ := mapPut (P := Tryz.prog) (mty := 71) (l' := (wordsL w.heap.size).take 9) (v := wordV 2 71 w.heap.size) (s := bl wDiff) rfl rfl m8 (by kernel_rfl) rfl
  replace r9 : Sem.run Tryz.prog (Instr.mapUpdate 71 (.map (some (w.heap.size + 1))) (.string ⟨#[100, 105, 102, 102]⟩) (.agg #[.int .i64 2, .func (.func 71) #[] #[.pointer (some ⟨w.heap.size, 0, none⟩)]])) x8 = .ok () x9 := r9
  have HW1 := keepBack hw1
  have HW2 := keepBack hw2
  have HE1 := keepBack e1
  clear hw1 hw2 hc1
  go_enter Tryz.func28, Tryz.ntmps28
  go_wp2_with fail
  rw [run_makeMap, ← HW1.out, ← HW2.out, HE1.out]
  go_wp2
  go_ret
  have st := s1.on (s2.on (s3.on (s4.on (s5.on (s6.on (s7.on (s8.on s9)))))))
  refine ⟨w.heap.size + 1, w.heap.size, rfl, ?_, m9, ?_⟩
  · exact (st.block w.heap.size (Array.getElem?_eq_some_iff.1 hc2).1 (by omega)).trans hc2
  · exact b2.trans (st.below (fun k hk => by omega) b2.size)
end Go.Pch
end

section
namespace Go.Pch
open Go.RowKit Go.Proofs
set_option maxRecDepth 100000
theorem isNone (W : World) : Sem.run Tryz.prog (Instr.typeAssert .nilIface 20 63 true) W = .ok (.tuple #[.agg #[.int .i64 0], .bool false]) W := by kernel_rfl
theorem isOne (n : Int) (W : World) : Sem.run Tryz.prog (Instr.typeAssert (.iface 63 (.agg #[.int .i64 n])) 20 63 true) W = .ok (.tuple #[.agg #[.int .i64 n], .bool true]) W := by kernel_rfl
set_option maxHeartbeats 400000 in
theorem caughtIdle (p : Addr) (w : World) :
    CallsD Tryz.prog 25 #[.pointer (some p)] .returning w fun e u' w' => e = .returned (.tuple #[]) ∧ u' = .returning ∧ Below w.heap.size w w' := by
  refine callsD_of_wpS Tryz.func25 rfl fun c₀ cs hu => ?_
  apply wpS_seq
  apply wpS_region
  simp [wpOpsS, go_sem, recoverD, hu, Tryz.ntmps25, Exit.thenS]
  refine wpS_of_wp ?_
  have ha : ({ tmps := #[Value.pointer (some p)] ++ ((Array.replicate 17 undef).setIfInBounds 3 Value.nilIface).setIfInBounds 0 Value.nilIface, defers := [] } : Act) =
      { tmps := #[.pointer (some p), .nilIface, undef, undef, .nilIface, undef, undef, undef, undef, undef, undef, undef, undef, undef, undef, undef, undef, undef], defers := [] } := by rfl
  have hi := isNone
  rw [ha]
  clear ha
  go_wp2
  have hb : Below w.heap.size w (w.alloc (.cells #[.int .i64 0] 63)) := (Below.refl _ _).alloc (Nat.le_refl _) _
  cases c₀
  simp_all [bodyPostS, results, Tryz.results25]
set_option maxHeartbeats 400000 in
theorem caughtOne (O : Nat) (n : Int) (hn : i64ok n) (h0 : 0 ≤ n) (c : Value) (older : List PanicEntry) (w : World) (hV : Vars w) (hr : w.heap[O]? = some (.cells #[c] 9)) :
    CallsD Tryz.prog 25 #[.pointer (some ⟨O, 0, none⟩)] (.panicking ({ v := .iface 63 (.agg #[.int .i64 n]), recovered := false } :: older)) w fun x u' w' =>
      x = .returned (.tuple #[]) ∧ u' = .panicking ({ v := .iface 63 (.agg #[.int .i64 n]), recovered := true } :: older) ∧ Step (fun k => k = O) w w' ∧ w'.heap[O]? = some (.cells #[.string (bl ([101, 114, 114, 111, 114, 32] ++ dgL n))] 9) := by
  refine callsD_of_wpS Tryz.func25 rfl fun c₀ cs hu => ?_
  apply wpS_seq
  apply wpS_region
  simp [wpOpsS, go_sem, recoverD, hu, Tryz.ntmps25, Exit.thenS]
  refine wpS_of_wp ?_
  have ha : ({ tmps := #[Value.pointer (some ⟨O, 0, none⟩)] ++ ((Array.replicate 17 undef).setIfInBounds 3 (Value.iface 63 (Value.agg #[Value.int IntKind.i64 n]))).setIfInBounds 0 (Value.iface 63 (Value.agg #[Value.int IntKind.i64 n])), defers := [] } : Act) =
      { tmps := #[.pointer (some ⟨O, 0, none⟩), .iface 63 (.agg #[.int .i64 n]), undef, undef, .iface 63 (.agg #[.int .i64 n]), undef, undef, undef, undef, undef, undef, undef, undef, undef, undef, undef, undef, undef], defers := [] } := by rfl
  have hi := isOne n
  rw [ha]
  clear ha
  have hl := dgL_len hn.2
  have hO := (Array.getElem?_eq_some_iff.1 hr).1
  have hsz : (ByteArray.mk #[101, 114, 114, 111, 114, 32]).size + (bl (dgL n)).size ≤ 9223372036854775807 := by
    rw [bl_size]
    have : (ByteArray.mk #[101, 114, 114, 111, 114, 32]).size = 6 := rfl
    omega
  obtain ⟨wA, hwA⟩ : ∃ wA, wA = w.alloc (.cells #[.int .i64 n] 63) := ⟨_, rfl⟩
  have bA : Below w.heap.size w wA := by rw [hwA]; exact (Below.refl _ _).alloc (Nat.le_refl _) _
  have HA := keepBack hwA
  clear hwA
  go_wp2_with fail
  rw [← HA.out]
  refine (itoaC n hn wA (hV.call bA)).mono ?_; rintro e w1 ⟨_, rfl, rfl, b1⟩
  rw [dgL_itoa h0]
  have b01 := bA.trans (b1.mono bA.size)
  have hr1 := (b01.block O hO).trans hr
  have c1 : w1.cell? ⟨O, 0, none⟩ = some c := by rw [World.cell?, hr1]; rfl
  have cf := frozen_of_row w1 O 0 _ _ hr1
  go_wp2
  have hE : ByteArray.mk #[101, 114, 114, 111, 114, 32] ++ bl (dgL n) = bl (101 :: 114 :: 114 :: 111 :: 114 :: 32 :: dgL n) := bl_append [101, 114, 114, 111, 114, 32] _
  rw [hE]
  have hr2 := heap_setCell_same w1 O 0 _ _ (.string (bl (101 :: 114 :: 114 :: 111 :: 114 :: 32 :: dgL n))) hr1
  have hst : Step (fun k => k = O) w (w1.setCell ⟨O, 0, none⟩ (.string (bl (101 :: 114 :: 114 :: 111 :: 114 :: 32 :: dgL n)))) := (Step.of_below b01).on (Step.setCell (X := fun k => k = O) ⟨O, 0, none⟩ _ rfl)
  simp [bodyPostS, results, Tryz.results25]
  exact ⟨hst, hr2⟩
theorem deskSplit (s : Bytes) (hs : s.length ≤ 4096) (w : World) (hV : Vars w) :
    Calls Tryz.prog 27 #[.string (bl s), .string ⟨#[32]⟩] w (Ret w fun r w' => Own tStr 9 w' w.heap.size (fun _ => False) r ((spl s).map bl)) := by
  obtain ⟨m, hm⟩ := hV.mlen
  have hsz := bl_size s
  have hc : Lib.countB (bl s) ⟨#[32]⟩ = s.count 32 := Lib.count_one 32 s
  have hS : Lib.splitB ⟨#[32]⟩ 0 (s.count 32) (bl s) = (spl s).map bl := by
    have h1 := Lib.splitB_data ⟨#[32]⟩ 0 (s.count 32) (bl s)
    have h2 : Lib.splitK [32] 0 (s.count 32) s = spl s := splitK_spl s
    have h3 := h1.trans h2
    rw [← h3, List.map_map]
    conv => lhs; rw [← List.map_id (Lib.splitB ⟨#[32]⟩ 0 (s.count 32) (bl s))]
    exact List.map_congr_left fun x _ => (bl_data x).symm
  refine (Tryz.strings_Split (bl s) ⟨#[32]⟩ m w (by omega) hm (by decide)).mono ?_
  rintro e w' ⟨rfl, rfl⟩
  rw [hc, hS]
  have hl : ((spl s).map bl).length = s.count 32 + 1 := by rw [List.length_map, spl_len]
  have hcl := List.count_le_length (a := (32 : UInt8)) (l := s)
  rw [← hl]
  have hE : ∀ l : List ByteArray, Each tStr w (fun _ => False) (l.map fun x => [Value.string x]) l := by
    intro l
    refine ⟨by simp, fun i cs a hc ha => ?_⟩
    rw [List.getElem?_map, ha] at hc
    simp only [Option.map_some, Option.some.injEq] at hc
    subst hc
    exact ⟨rfl, trivial⟩
  refine ⟨_, rfl, Own.lit (hE _) ?_ (by rw [hl]; simp [maxLen]; omega) (Nat.le_refl _), (Below.refl _ _).alloc (Nat.le_refl _) _⟩
  · induction (spl s).map bl with
    | nil => rfl
    | cons a l ih => simp [ih]
def wordF (c : Bytes) : Option (Nat × FuncId) := if c = wPut then some (3, 49) else if c = wCut then some (2, 52) else if c = wBranch then some (2, 53) else if c = wDrop then some (1, 56) else if c = wMerge then some (2, 58) else if c = wRows then some (1, 60) else if c = wRoot then some (1, 65) else if c = wLog then some (1, 68) else if c = wDiff then some (2, 71) else none
theorem findNow_step (c k : Bytes) (v : Value) (b : Nat) (es : List MapEntry) (i : Nat) :
    Instr.findNow .string (.string (bl c)) (⟨.string (bl k), v, b⟩ :: es) i = if c = k then some (some (i, v)) else Instr.findNow .string (.string (bl c)) es (i + 1) := by
  by_cases h : c = k
  · subst h
    have hb : (bl c == bl c) = true := (MapKept.bytes_beq _ _).2 rfl
    simp [Instr.findNow, Instr.sameNow, hb]
  · have hb : (bl c == bl k) = false := by
      cases hq : (bl c == bl k) with
      | false => rfl
      | true => exact absurd (bl_inj ((MapKept.bytes_beq _ _).1 hq)) h
    simp [Instr.findNow, Instr.sameNow, hb, h]
theorem words_find (c : Bytes) (cb : Nat) : (∃ p i, wordF c = some p ∧ Instr.findNow .string (.string (bl c)) (wordsL cb) 0 = some (some (i, wordV p.1 p.2 cb))) ∨ (wordF c = none ∧ Instr.findNow .string (.string (bl c)) (wordsL cb) 0 = some none) := by
  unfold wordsL wordF
  simp only [findNow_step]
  by_cases h1 : c = wPut
  · exact .inl ⟨_, _, by rw [if_pos h1], by rw [if_pos h1]; rfl⟩
  rw [if_neg h1, if_neg h1]
  by_cases h2 : c = wCut
  · exact .inl ⟨_, _, by rw [if_pos h2], by rw [if_pos h2]; rfl⟩
  rw [if_neg h2, if_neg h2]
  by_cases h3 : c = wBranch
  · exact .inl ⟨_, _, by rw [if_pos h3], by rw [if_pos h3]; rfl⟩
  rw [if_neg h3, if_neg h3]
  by_cases h4 : c = wDrop
  · exact .inl ⟨_, _, by rw [if_pos h4], by rw [if_pos h4]; rfl⟩
  rw [if_neg h4, if_neg h4]
  by_cases h5 : c = wMerge
  · exact .inl ⟨_, _, by rw [if_pos h5], by rw [if_pos h5]; rfl⟩
  rw [if_neg h5, if_neg h5]
  by_cases h6 : c = wRows
  · exact .inl ⟨_, _, by rw [if_pos h6], by rw [if_pos h6]; rfl⟩
  rw [if_neg h6, if_neg h6]
  by_cases h7 : c = wRoot
  · exact .inl ⟨_, _, by rw [if_pos h7], by rw [if_pos h7]; rfl⟩
  rw [if_neg h7, if_neg h7]
  by_cases h8 : c = wLog
  · exact .inl ⟨_, _, by rw [if_pos h8], by rw [if_pos h8]; rfl⟩
  rw [if_neg h8, if_neg h8]
  by_cases h9 : c = wDiff
  · exact .inl ⟨_, _, by rw [if_pos h9], by rw [if_pos h9]; rfl⟩
  rw [if_neg h9, if_neg h9]
  exact .inr ⟨rfl, rfl⟩
theorem wordsYes {c : Bytes} {n : Nat} {f : FuncId} (h : wordF c = some (n, f)) {cb M : Nat} {W : World} (hM : W.heap[M]? = some (.map (wordsL cb).toArray 9)) :
    Sem.run Tryz.prog (Instr.lookup 71 (.map (some M)) (.string (bl c)) true) W = .ok (.tuple #[.agg #[.int .i64 n, .func (.func f) #[] #[.pointer (some ⟨cb, 0, none⟩)]], .bool true]) W := by
  rcases words_find c cb with ⟨p, i, hp, hf⟩ | ⟨hp, _⟩
  · rw [h] at hp
    simp only [Option.some.injEq] at hp
    subst hp
    have hm : Tryz.prog.underlying 71 = some (.map 9 69) := by kernel_rfl
    have hk : Tryz.prog.underlying 9 = some .string := by kernel_rfl
    have hc : (Instr.checkKey (wordsL cb).isEmpty 10000 9 (.string (bl c))).run Tryz.prog W = .ok () W := MapKept.run_checkKey (k := .string (bl c)) hk (by simp [MapKept.IsKey]) (wordsL cb).isEmpty 9999
    have hfk := MapKept.run_findKey (w := W) hk hf
    simp [Instr.lookup, run_underlying hm, MapKept.run_getObj_map hM, hc, hfk, Result.andThen, wordV]
  · rw [h] at hp; cases hp
theorem wordsNo {c : Bytes} (h : wordF c = none) {cb M : Nat} {W : World} (hM : W.heap[M]? = some (.map (wordsL cb).toArray 9)) :
    Sem.run Tryz.prog (Instr.lookup 71 (.map (some M)) (.string (bl c)) true) W = .ok (.tuple #[.agg #[.int .i64 0, .nilFunc], .bool false]) W := by
  rcases words_find c cb with ⟨p, i, hp, hf⟩ | ⟨_, hf⟩
  · rw [h] at hp; cases hp
  · have hm : Tryz.prog.underlying 71 = some (.map 9 69) := by kernel_rfl
    have hk : Tryz.prog.underlying 9 = some .string := by kernel_rfl
    have hz : (zeroValue 69).run Tryz.prog W = .ok (.agg #[.int .i64 0, .nilFunc]) W := by kernel_rfl
    have hc : (Instr.checkKey (wordsL cb).isEmpty 10000 9 (.string (bl c))).run Tryz.prog W = .ok () W := MapKept.run_checkKey (k := .string (bl c)) hk (by simp [MapKept.IsKey]) (wordsL cb).isEmpty 9999
    have hfk := MapKept.run_findKey (w := W) hk hf
    simp [Instr.lookup, run_underlying hm, MapKept.run_getObj_map hM, hc, hfk, hz, Result.andThen]
end Go.Pch
end
