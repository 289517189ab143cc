/- The document's desk: a line: branch. (gen_dmc.py) The document's desk: a line: drop. (gen_dmc.py) The document's desk: a line: merge. (gen_dmc.py) The walks of package desk: what the words do. (gen_dkh.py) -/
import Derived.Test.YtjjkdpjjaijmbaaGreatDoorDg39
import Derived.Test.YtjjkdpjjaijmbaaGreatDoorDg40
import Derived.OrdersHeld
import Derived.RegionTactic
section
namespace Go.Pch
open Go.RowKit Go.Proofs
set_option maxRecDepth 100000
set_option linter.unusedVariables false
set_option maxHeartbeats 4000000 in
theorem playedBranch (v : Value) (r : Repo) (s : Bytes) (hs : s.length ≤ 4096) (hr : repoErr r = 0) (S : Blk) (w : World) (h : Rp w S v r) {N : Nat} {c0 c1 c2 c3 : Bytes} (hP : Padded s N c0 c1 c2 c3) {k2 k3 : Int} (hk2 : numI (numP c2) = k2) (hk3 : numI (numP c3) = k3) (hlen : N = 3) (hw : c0 = wBranch) :
    Calls Tryz.prog 16 #[v, .string (bl s)] w (Ret w (PlayedPost w.heap.size S (okO (jBranch r (bl c1) (bl c2))))) := by
  obtain ⟨p, hp⟩ : ∃ p, p = jBranch r (bl c1) (bl c2) := ⟨_, rfl⟩
  rw [← hp]
  have HP := keepBack hp
  clear hp
  have hR := h
  have HK2 := keepBack hk2
  have HK3 := keepBack hk3
  clear hk2 hk3
  have hl2 := Nat.le_trans (pad_short s _ _ hP.w2) hs
  have hl3 := Nat.le_trans (pad_short s _ _ hP.w3) hs
  have HC0 := keepBack hw
  clear hw
  have HLEN := keepBack hlen
  clear hlen
  obtain ⟨vc, vh, rfl, hc, hh⟩ := h
  obtain ⟨ac, cc, hvc, _, _, _⟩ := hc.shape
  obtain ⟨ah, ch, hvh, _, _, _⟩ := hh.shape
  obtain ⟨nc, hnc⟩ : ∃ n, n = r.1.length := ⟨_, rfl⟩
  obtain ⟨nh, hnh⟩ : ∃ n, n = r.2.length := ⟨_, rfl⟩
  rw [← hnc] at hvc
  rw [← hnh] at hvh
  clear hnc hnh
  subst hvc hvh
  clear hc hh
  have hX := boxAt w (.slice ac nc cc) (.slice ah nh ch)
  obtain ⟨wB, hwB⟩ : ∃ wB, wB = (w.alloc (.cells #[.slice ac nc cc, .slice ah nh ch] 33)).alloc (.cells #[.slice none 0 0, .slice none 0 0] 33) := ⟨_, rfl⟩
  rw [← hwB] at hX
  have HWB := keepBack hwB
  clear hwB
  have HZB := keepBack hX.size
  go_enter Tryz.func16, Tryz.ntmps16
  go_wp2_with fail
  rw [← HWB.out]
  refine (refSplit s hs wB).mono ?_; rintro e w1 ⟨_, rfl, ho, b1⟩
  obtain ⟨ag, cg, hv, _, _⟩ := ho.shape
  rw [List.length_map, hP.len] at hv
  have hNs : N ≤ 4097 := by rw [← hP.len, spl_len]; have := List.count_le_length (a := (32 : UInt8)) (l := s); omega
  have hN1 : 1 ≤ N := by rw [← hP.len, spl_len]; omega
  subst hv
  have hob := ho.block
  have z1 := b1.size
  have hsrc := srcEmpty w1 (fun _ => False)
  go_wp2_with (at_builtin; refine wpList_grow rfl (.tmp 37) (.tmp 38) rfl aStr rfl (ho.alloc _) rfl rfl hsrc (by simp) (fun _ h => h.elim) (by rw [List.length_map, hP.len]; simp only [List.length_cons, List.length_nil]; omega) (by simp; omega) ?_)
  intro v2 w2 ho2 hg2
  have hb2 : Below wB.heap.size wB w2 := (b1.alloc (by have := b1.size; omega) _).grown hg2 (by have := b1.size; simp; omega) (fun g hg => (hob g hg).1)
  clear hsrc hg2 hob
  have hsl : Sl tStr w2 (fun k => wB.heap.size ≤ k) v2 ((spl s ++ [[], [], [], []]).map bl) := by rw [List.map_append]; exact ho2.sl (fun _ h => h.elim) (fun _ h => h)
  clear ho2 ho
  obtain ⟨⟨a2, g2, hv⟩, x0, o0, x1, o1, x2, o2, x3, o3, hA⟩ := padAt hP hsl
  clear hsl
  have hN : N = 3 := HLEN.out
  subst hN
  replace hv : v2 = .slice a2 7 g2 := hv
  subst hv
  clear hNs hN1
  have i0 := hA.i0
  have i1 := hA.i1
  have i2 := hA.i2
  have i3 := hA.i3
  have HA := keepBack hA
  have KS : Hid (∀ W, Below w2.heap.size w2 W → Below w2.heap.size w2 W ∧ W.cell? ⟨x2, o2, none⟩ = some (.string (bl c2)) ∧ W.cell? ⟨x3, o3, none⟩ = some (.string (bl c3))) := keepBack fun W hW => ⟨hW, (hA.call hW).e2, (hA.call hW).e3⟩
  clear hA
  go_wp2_with fail
  go_region_held3 (fun W => Below w2.heap.size w2 W ∧ W.cell? ⟨x2, o2, none⟩ = some (.string (bl c2)) ∧ W.cell? ⟨x3, o3, none⟩ = some (.string (bl c3)))
    (first
      | exact KS.out _ (by assumption)
      | exact KS.out _ (Below.refl _ _)
      | exact KS.out _ (Below.refl _ _).drew
      | exact KS.out _ (Below.drew (by assumption))
      | fail)
    (first
      | (go_at_call 32; refine (refNum _ (by first | exact hl2 | exact hl3) _).mono ?_; rintro e w3 ⟨_, rfl, rfl, b3⟩; have cB : Below w2.heap.size w2 w3 := below_onD (by first | assumption | exact (Below.refl _ _).drew | exact Below.refl _ _ | exact Below.drew (by assumption)) b3)
      | fail)
  have hl1 := Nat.le_trans (pad_short s _ _ hP.w1) hs
  clear KS hl2 hl3
  rw [HK2.out, HK3.out]
  have b23 : Below w2.heap.size w2 w3 := by assumption
  have hb3 := hb2.trans (b23.mono hb2.size)
  have hA3 := HA.out.call b23
  have e0 := hA3.e0
  have e1 := hA3.e1
  have e2 := hA3.e2
  have e3 := hA3.e3
  have HA3 := keepBack hA3
  clear hA3
  obtain ⟨y0, y1, y2, y3, yf⟩ := hX.on hb3
  clear b1 hb2
  have q0 : ¬ (bl c0).toList = [112, 117, 116] := by rw [bl_list, HC0.out]; decide
  have q1 : ¬ (bl c0).toList = [99, 117, 116] := by rw [bl_list, HC0.out]; decide
  have q2 : (bl c0).toList = [98, 114, 97, 110, 99, 104] := by rw [bl_list, HC0.out]; decide
  have hR3 : Rp w3 S (.agg #[.slice ac nc cc, .slice ah nh ch]) r := hR.call (hX.low.trans (hb3.mono (by rw [HZB.out]; omega)))
  have KR : ∀ W, Below w3.heap.size w3 W → Below w3.heap.size w3 W ∧ W.cell? ⟨w.heap.size, 0, none⟩ = some (.slice ac nc cc) ∧ W.cell? ⟨w.heap.size, 1, none⟩ = some (.slice ah nh ch) ∧ W.cell? ⟨x1, o1, none⟩ = some (.string (bl c1)) ∧ W.cell? ⟨x2, o2, none⟩ = some (.string (bl c2)) := fun W hW => by
    obtain ⟨u0, u1, _, _, _⟩ := hX.on (hb3.trans (hW.mono hb3.size))
    have hu := HA3.out.call hW
    exact ⟨hW, u0, u1, hu.e1, hu.e2⟩
  have B0 : Below w3.heap.size w3 w3.drew := (Below.refl _ _).drew
  have BN : Below w3.heap.size w3 (w3.alloc (.cells #[.slice none 0 0, .slice none 0 0] 33)) := (Below.refl _ _).alloc (Nat.le_refl _) _
  have B2 : Below w3.heap.size w3 (w3.alloc (.cells #[.slice none 0 0, .slice none 0 0] 33)).drew := BN.drew
  have T : ∀ W, Below w3.heap.size w3 W → Calls Tryz.prog 34 #[.agg #[.slice ac nc cc, .slice ah nh ch], .string (bl c1), .string (bl c2)] W (Ret W (RepoOr p (fun k => W.heap.size ≤ k))) := fun W hW => by
    rw [HP.out]
    exact repoOr_of_ret (refBranchOf _ r (bl c1) (bl c2) S W (by rw [bl_size]; unfold maxLen; omega) (hR3.call hW))
  go_wp2_with fail
  go_cut [15, 16] from 36 (fun ux ue wc => ∃ (nb : Nat) (a : Option Addr) (n c : Nat) (a' : Option Addr) (n' c' : Nat), ux = .pointer (some ⟨nb, 0, none⟩) ∧ ue = .int .i64 p.2 ∧ GotW w3 wc nb (.slice a n c) (.slice a' n' c') p.2 p.1)
  case first =>
    go_region_held3 (fun W => Below w3.heap.size w3 W ∧ W.cell? ⟨w.heap.size, 0, none⟩ = some (.slice ac nc cc) ∧ W.cell? ⟨w.heap.size, 1, none⟩ = some (.slice ah nh ch) ∧ W.cell? ⟨x1, o1, none⟩ = some (.string (bl c1)) ∧ W.cell? ⟨x2, o2, none⟩ = some (.string (bl c2)))
      (first
        | exact KR _ (Below.refl _ _)
        | exact KR _ B0
        | exact KR _ BN
        | exact KR _ B2
        | exact KR _ b34
        | exact KR _ (b34.alloc b34.size _)
        | exact KR _ ((b34.setCell (by simp) _).setCell (by simp) _)
        | fail)
      (first
        | (go_at_call 34; refine (T _ B2).mono ?_; rintro e w4 ⟨_, rfl, ⟨a, n, c, a', n', c', rfl, hq⟩, b4⟩; have b34 := B2.trans (b4.mono B2.size); obtain ⟨nb0, nb1, nbf⟩ := newBox b4; have DW := gotTwo b4 hq)
        | (go_at_call 34; refine (T _ B0).mono ?_; rintro e w4 ⟨_, rfl, ⟨a, n, c, a', n', c', rfl, hq⟩, b4⟩; have b34 := B0.trans (b4.mono B0.size); have DW := gotOne b4 hq)
        | fail)
    all_goals
      clear T KR y0 y1 y2 y3 yf e0 e1 e2 e3 i0 i1 i2 i3
      go_wp2_with fail
      go_meet
      case rel => exact ⟨_, _, _, _, _, _, _, rfl, rfl, DW⟩
  case rest =>
    obtain ⟨nb, a, n, c, a', n', c', rfl, rfl, DW⟩ := hcut
    have b5 := hb3.trans (DW.low.mono hb3.size)
    obtain ⟨g0, g1⟩ := DW.cells
    obtain ⟨_, _, z2, z3, zf⟩ := hX.on b5
    clear T KR y0 y1 y2 y3 yf e0 e1 e2 e3 i0 i1 i2 i3
    go_wp2
    refine bodyPost_ret (joinResults rfl _ _ _ _ _ _ _ _ rfl rfl rfl (hX.fin b5 _ _).1) rfl ?_
    exact ⟨_, rfl, ⟨_, _, _, _, _, _, _, rfl, fun h0 => ⟨rfl, gotFin hX ((DW.rep h0).more fun k hk _ => Nat.le_trans hb3.size hk)⟩⟩, (hX.fin b5 _ _).2⟩
end Go.Pch
end

section
namespace Go.Pch
open Go.RowKit Go.Proofs
set_option maxRecDepth 100000
set_option linter.unusedVariables false
set_option maxHeartbeats 4000000 in
theorem playedDrop (v : Value) (r : Repo) (s : Bytes) (hs : s.length ≤ 4096) (hr : repoErr r = 0) (S : Blk) (w : World) (h : Rp w S v r) {N : Nat} {c0 c1 c2 c3 : Bytes} (hP : Padded s N c0 c1 c2 c3) {k2 k3 : Int} (hk2 : numI (numP c2) = k2) (hk3 : numI (numP c3) = k3) (hlen : N = 2) (hw : c0 = wDrop) :
    Calls Tryz.prog 16 #[v, .string (bl s)] w (Ret w (PlayedPost w.heap.size S (okO (jDrop r (bl c1))))) := by
  obtain ⟨p, hp⟩ : ∃ p, p = jDrop r (bl c1) := ⟨_, rfl⟩
  rw [← hp]
  have HP := keepBack hp
  clear hp
  have hR := h
  have HK2 := keepBack hk2
  have HK3 := keepBack hk3
  clear hk2 hk3
  have hl2 := Nat.le_trans (pad_short s _ _ hP.w2) hs
  have hl3 := Nat.le_trans (pad_short s _ _ hP.w3) hs
  have HC0 := keepBack hw
  clear hw
  have HLEN := keepBack hlen
  clear hlen
  obtain ⟨vc, vh, rfl, hc, hh⟩ := h
  obtain ⟨ac, cc, hvc, _, _, _⟩ := hc.shape
  obtain ⟨ah, ch, hvh, _, _, _⟩ := hh.shape
  obtain ⟨nc, hnc⟩ : ∃ n, n = r.1.length := ⟨_, rfl⟩
  obtain ⟨nh, hnh⟩ : ∃ n, n = r.2.length := ⟨_, rfl⟩
  rw [← hnc] at hvc
  rw [← hnh] at hvh
  clear hnc hnh
  subst hvc hvh
  clear hc hh
  have hX := boxAt w (.slice ac nc cc) (.slice ah nh ch)
  obtain ⟨wB, hwB⟩ : ∃ wB, wB = (w.alloc (.cells #[.slice ac nc cc, .slice ah nh ch] 33)).alloc (.cells #[.slice none 0 0, .slice none 0 0] 33) := ⟨_, rfl⟩
  rw [← hwB] at hX
  have HWB := keepBack hwB
  clear hwB
  have HZB := keepBack hX.size
  go_enter Tryz.func16, Tryz.ntmps16
  go_wp2_with fail
  rw [← HWB.out]
  refine (refSplit s hs wB).mono ?_; rintro e w1 ⟨_, rfl, ho, b1⟩
  obtain ⟨ag, cg, hv, _, _⟩ := ho.shape
  rw [List.length_map, hP.len] at hv
  have hNs : N ≤ 4097 := by rw [← hP.len, spl_len]; have := List.count_le_length (a := (32 : UInt8)) (l := s); omega
  have hN1 : 1 ≤ N := by rw [← hP.len, spl_len]; omega
  subst hv
  have hob := ho.block
  have z1 := b1.size
  have hsrc := srcEmpty w1 (fun _ => False)
  go_wp2_with (at_builtin; refine wpList_grow rfl (.tmp 37) (.tmp 38) rfl aStr rfl (ho.alloc _) rfl rfl hsrc (by simp) (fun _ h => h.elim) (by rw [List.length_map, hP.len]; simp only [List.length_cons, List.length_nil]; omega) (by simp; omega) ?_)
  intro v2 w2 ho2 hg2
  have hb2 : Below wB.heap.size wB w2 := (b1.alloc (by have := b1.size; omega) _).grown hg2 (by have := b1.size; simp; omega) (fun g hg => (hob g hg).1)
  clear hsrc hg2 hob
  have hsl : Sl tStr w2 (fun k => wB.heap.size ≤ k) v2 ((spl s ++ [[], [], [], []]).map bl) := by rw [List.map_append]; exact ho2.sl (fun _ h => h.elim) (fun _ h => h)
  clear ho2 ho
  obtain ⟨⟨a2, g2, hv⟩, x0, o0, x1, o1, x2, o2, x3, o3, hA⟩ := padAt hP hsl
  clear hsl
  have hN : N = 2 := HLEN.out
  subst hN
  replace hv : v2 = .slice a2 6 g2 := hv
  subst hv
  clear hNs hN1
  have i0 := hA.i0
  have i1 := hA.i1
  have i2 := hA.i2
  have i3 := hA.i3
  have HA := keepBack hA
  have KS : Hid (∀ W, Below w2.heap.size w2 W → Below w2.heap.size w2 W ∧ W.cell? ⟨x2, o2, none⟩ = some (.string (bl c2)) ∧ W.cell? ⟨x3, o3, none⟩ = some (.string (bl c3))) := keepBack fun W hW => ⟨hW, (hA.call hW).e2, (hA.call hW).e3⟩
  clear hA
  go_wp2_with fail
  go_region_held3 (fun W => Below w2.heap.size w2 W ∧ W.cell? ⟨x2, o2, none⟩ = some (.string (bl c2)) ∧ W.cell? ⟨x3, o3, none⟩ = some (.string (bl c3)))
    (first
      | exact KS.out _ (by assumption)
      | exact KS.out _ (Below.refl _ _)
      | exact KS.out _ (Below.refl _ _).drew
      | exact KS.out _ (Below.drew (by assumption))
      | fail)
    (first
      | (go_at_call 32; refine (refNum _ (by first | exact hl2 | exact hl3) _).mono ?_; rintro e w3 ⟨_, rfl, rfl, b3⟩; have cB : Below w2.heap.size w2 w3 := below_onD (by first | assumption | exact (Below.refl _ _).drew | exact Below.refl _ _ | exact Below.drew (by assumption)) b3)
      | fail)
  have hl1 := Nat.le_trans (pad_short s _ _ hP.w1) hs
  clear KS hl2 hl3
  rw [HK2.out, HK3.out]
  have b23 : Below w2.heap.size w2 w3 := by assumption
  have hb3 := hb2.trans (b23.mono hb2.size)
  have hA3 := HA.out.call b23
  have e0 := hA3.e0
  have e1 := hA3.e1
  have e2 := hA3.e2
  have e3 := hA3.e3
  have HA3 := keepBack hA3
  clear hA3
  obtain ⟨y0, y1, y2, y3, yf⟩ := hX.on hb3
  clear b1 hb2
  have q0 : ¬ (bl c0).toList = [112, 117, 116] := by rw [bl_list, HC0.out]; decide
  have q1 : ¬ (bl c0).toList = [99, 117, 116] := by rw [bl_list, HC0.out]; decide
  have q2 : ¬ (bl c0).toList = [98, 114, 97, 110, 99, 104] := by rw [bl_list, HC0.out]; decide
  have q3 : (bl c0).toList = [100, 114, 111, 112] := by rw [bl_list, HC0.out]; decide
  have B0 : Below w3.heap.size w3 w3.drew := (Below.refl _ _).drew
  have B2 : Below w3.heap.size w3 (w3.alloc (.cells #[.slice none 0 0, .slice none 0 0] 33)).drew := ((Below.refl _ _).alloc (Nat.le_refl _) _).drew
  have X0 := overBox y0
  have X1 := overBox y1
  have E1 := overBox e1
  have E2 := overBox e2
  have hR3 : Rp w3 S (.agg #[.slice ac nc cc, .slice ah nh ch]) r := hR.call (hX.low.trans (hb3.mono (by rw [HZB.out]; omega)))
  have T : ∀ W, Below w3.heap.size w3 W → Calls Tryz.prog 35 #[.agg #[.slice ac nc cc, .slice ah nh ch], .string (bl c1)] W (Ret W (RepoOr p (fun k => W.heap.size ≤ k))) := fun W hW => by
    rw [HP.out]
    exact repoOr_of_ret (refDropOf _ r (bl c1) S W (hR3.call hW))
  go_wp2_with fail
  go_region_law (first
    | (go_simp; go_at_call 35; refine (T _ B2).mono ?_; rintro e w4 ⟨_, rfl, ⟨a, n, c, a', n', c', rfl, hq⟩, b4⟩; obtain ⟨nb0, nb1, nbf⟩ := newBox b4; have DW := gotTwo b4 hq)
    | (go_simp; go_at_call 35; refine (T _ B0).mono ?_; rintro e w4 ⟨_, rfl, ⟨a, n, c, a', n', c', rfl, hq⟩, b4⟩; have DW := gotOne b4 hq)
    | fail)
  all_goals
    have b5 := hb3.trans (DW.low.mono hb3.size)
    obtain ⟨g0, g1⟩ := DW.cells
    obtain ⟨_, _, z2, z3, zf⟩ := hX.on b5
    clear T y0 y1 y2 y3 yf e0 e1 e2 e3 X0 X1 E1 E2 i0 i1 i2 i3
    go_wp2
    refine bodyPost_ret (joinResults rfl _ _ _ _ _ _ _ _ rfl rfl rfl (hX.fin b5 _ _).1) rfl ?_
    exact ⟨_, rfl, ⟨_, _, _, _, _, _, _, rfl, fun h0 => ⟨rfl, gotFin hX ((DW.rep h0).more fun k hk _ => Nat.le_trans hb3.size hk)⟩⟩, (hX.fin b5 _ _).2⟩
end Go.Pch
end

section
namespace Go.Pch
open Go.RowKit Go.Proofs
set_option maxRecDepth 100000
set_option linter.unusedVariables false
set_option maxHeartbeats 4000000 in
theorem playedMerge (v : Value) (r : Repo) (s : Bytes) (hs : s.length ≤ 4096) (hr : repoErr r = 0) (S : Blk) (w : World) (h : Rp w S v r) {N : Nat} {c0 c1 c2 c3 : Bytes} (hP : Padded s N c0 c1 c2 c3) {k2 k3 : Int} (hk2 : numI (numP c2) = k2) (hk3 : numI (numP c3) = k3) (hlen : N = 3) (hw : c0 = wMerge) :
    Calls Tryz.prog 16 #[v, .string (bl s)] w (Ret w (PlayedPost w.heap.size S (mergeO r (jJoin r (bl c1) (bl c2))))) := by
  obtain ⟨p, hp⟩ : ∃ p, p = jJoin r (bl c1) (bl c2) := ⟨_, rfl⟩
  rw [← hp]
  have HP := keepBack hp
  clear hp
  have hR := h
  have HK2 := keepBack hk2
  have HK3 := keepBack hk3
  clear hk2 hk3
  have hl2 := Nat.le_trans (pad_short s _ _ hP.w2) hs
  have hl3 := Nat.le_trans (pad_short s _ _ hP.w3) hs
  have HC0 := keepBack hw
  clear hw
  have HLEN := keepBack hlen
  clear hlen
  obtain ⟨vc, vh, rfl, hc, hh⟩ := h
  obtain ⟨ac, cc, hvc, _, _, _⟩ := hc.shape
  obtain ⟨ah, ch, hvh, _, _, _⟩ := hh.shape
  obtain ⟨nc, hnc⟩ : ∃ n, n = r.1.length := ⟨_, rfl⟩
  obtain ⟨nh, hnh⟩ : ∃ n, n = r.2.length := ⟨_, rfl⟩
  rw [← hnc] at hvc
  rw [← hnh] at hvh
  clear hnc hnh
  subst hvc hvh
  clear hc hh
  have hX := boxAt w (.slice ac nc cc) (.slice ah nh ch)
  obtain ⟨wB, hwB⟩ : ∃ wB, wB = (w.alloc (.cells #[.slice ac nc cc, .slice ah nh ch] 33)).alloc (.cells #[.slice none 0 0, .slice none 0 0] 33) := ⟨_, rfl⟩
  rw [← hwB] at hX
  have HWB := keepBack hwB
  clear hwB
  have HZB := keepBack hX.size
  go_enter Tryz.func16, Tryz.ntmps16
  go_wp2_with fail
  rw [← HWB.out]
  refine (refSplit s hs wB).mono ?_; rintro e w1 ⟨_, rfl, ho, b1⟩
  obtain ⟨ag, cg, hv, _, _⟩ := ho.shape
  rw [List.length_map, hP.len] at hv
  have hNs : N ≤ 4097 := by rw [← hP.len, spl_len]; have := List.count_le_length (a := (32 : UInt8)) (l := s); omega
  have hN1 : 1 ≤ N := by rw [← hP.len, spl_len]; omega
  subst hv
  have hob := ho.block
  have z1 := b1.size
  have hsrc := srcEmpty w1 (fun _ => False)
  go_wp2_with (at_builtin; refine wpList_grow rfl (.tmp 37) (.tmp 38) rfl aStr rfl (ho.alloc _) rfl rfl hsrc (by simp) (fun _ h => h.elim) (by rw [List.length_map, hP.len]; simp only [List.length_cons, List.length_nil]; omega) (by simp; omega) ?_)
  intro v2 w2 ho2 hg2
  have hb2 : Below wB.heap.size wB w2 := (b1.alloc (by have := b1.size; omega) _).grown hg2 (by have := b1.size; simp; omega) (fun g hg => (hob g hg).1)
  clear hsrc hg2 hob
  have hsl : Sl tStr w2 (fun k => wB.heap.size ≤ k) v2 ((spl s ++ [[], [], [], []]).map bl) := by rw [List.map_append]; exact ho2.sl (fun _ h => h.elim) (fun _ h => h)
  clear ho2 ho
  obtain ⟨⟨a2, g2, hv⟩, x0, o0, x1, o1, x2, o2, x3, o3, hA⟩ := padAt hP hsl
  clear hsl
  have hN : N = 3 := HLEN.out
  subst hN
  replace hv : v2 = .slice a2 7 g2 := hv
  subst hv
  clear hNs hN1
  have i0 := hA.i0
  have i1 := hA.i1
  have i2 := hA.i2
  have i3 := hA.i3
  have HA := keepBack hA
  have KS : Hid (∀ W, Below w2.heap.size w2 W → Below w2.heap.size w2 W ∧ W.cell? ⟨x2, o2, none⟩ = some (.string (bl c2)) ∧ W.cell? ⟨x3, o3, none⟩ = some (.string (bl c3))) := keepBack fun W hW => ⟨hW, (hA.call hW).e2, (hA.call hW).e3⟩
  clear hA
  go_wp2_with fail
  go_region_held3 (fun W => Below w2.heap.size w2 W ∧ W.cell? ⟨x2, o2, none⟩ = some (.string (bl c2)) ∧ W.cell? ⟨x3, o3, none⟩ = some (.string (bl c3)))
    (first
      | exact KS.out _ (by assumption)
      | exact KS.out _ (Below.refl _ _)
      | exact KS.out _ (Below.refl _ _).drew
      | exact KS.out _ (Below.drew (by assumption))
      | fail)
    (first
      | (go_at_call 32; refine (refNum _ (by first | exact hl2 | exact hl3) _).mono ?_; rintro e w3 ⟨_, rfl, rfl, b3⟩; have cB : Below w2.heap.size w2 w3 := below_onD (by first | assumption | exact (Below.refl _ _).drew | exact Below.refl _ _ | exact Below.drew (by assumption)) b3)
      | fail)
  have hl1 := Nat.le_trans (pad_short s _ _ hP.w1) hs
  clear KS hl2 hl3
  rw [HK2.out, HK3.out]
  have b23 : Below w2.heap.size w2 w3 := by assumption
  have hb3 := hb2.trans (b23.mono hb2.size)
  have hA3 := HA.out.call b23
  have e0 := hA3.e0
  have e1 := hA3.e1
  have e2 := hA3.e2
  have e3 := hA3.e3
  have HA3 := keepBack hA3
  clear hA3
  obtain ⟨y0, y1, y2, y3, yf⟩ := hX.on hb3
  clear b1 hb2
  have q0 : ¬ (bl c0).toList = [112, 117, 116] := by rw [bl_list, HC0.out]; decide
  have q1 : ¬ (bl c0).toList = [99, 117, 116] := by rw [bl_list, HC0.out]; decide
  have q2 : ¬ (bl c0).toList = [98, 114, 97, 110, 99, 104] := by rw [bl_list, HC0.out]; decide
  have q3 : ¬ (bl c0).toList = [100, 114, 111, 112] := by rw [bl_list, HC0.out]; decide
  have q4 : (bl c0).toList = [109, 101, 114, 103, 101] := by rw [bl_list, HC0.out]; decide
  have hR3 : Rp w3 S (.agg #[.slice ac nc cc, .slice ah nh ch]) r := hR.call (hX.low.trans (hb3.mono (by rw [HZB.out]; omega)))
  have KR : ∀ W, Below w3.heap.size w3 W → Below w3.heap.size w3 W ∧ W.cell? ⟨w.heap.size, 0, none⟩ = some (.slice ac nc cc) ∧ W.cell? ⟨w.heap.size, 1, none⟩ = some (.slice ah nh ch) ∧ W.cell? ⟨x1, o1, none⟩ = some (.string (bl c1)) ∧ W.cell? ⟨x2, o2, none⟩ = some (.string (bl c2)) := fun W hW => by
    obtain ⟨u0, u1, _, _, _⟩ := hX.on (hb3.trans (hW.mono hb3.size))
    have hu := HA3.out.call hW
    exact ⟨hW, u0, u1, hu.e1, hu.e2⟩
  have B0 : Below w3.heap.size w3 w3.drew := (Below.refl _ _).drew
  have BN : Below w3.heap.size w3 (w3.alloc (.cells #[.slice none 0 0, .slice none 0 0] 33)) := (Below.refl _ _).alloc (Nat.le_refl _) _
  have B2 : Below w3.heap.size w3 (w3.alloc (.cells #[.slice none 0 0, .slice none 0 0] 33)).drew := BN.drew
  have T : ∀ W, Below w3.heap.size w3 W → Calls Tryz.prog 36 #[.agg #[.slice ac nc cc, .slice ah nh ch], .string (bl c1), .string (bl c2)] W (Ret W (JoinOr p (fun k => W.heap.size ≤ k))) := fun W hW => by
    rw [HP.out]
    exact joinOr_of (refJoinOf _ r (bl c1) (bl c2) S W (hR3.call hW))
  have hkeys : p.2.1.length ≤ 1000 := by rw [HP.out]; have := (jJoin_keys (r := r) (s := bl c1) (f := bl c2)).1; omega
  go_wp2_with fail
  go_cut [19, 20, 21] from 36 (fun ux uz ue wc => ∃ (nb : Nat) (a : Option Addr) (n c : Nat) (a' : Option Addr) (n' c' : Nat) (az : Option Addr) (nz cz : Nat), ux = .pointer (some ⟨nb, 0, none⟩) ∧ uz = .slice az nz cz ∧ ue = .int .i64 p.2.2 ∧ GotW w3 wc nb (.slice a n c) (.slice a' n' c') p.2.2 p.1 ∧ Sl tInt wc (fun _ => True) (.slice az nz cz) p.2.1)
  case first =>
    go_region_held3 (fun W => Below w3.heap.size w3 W ∧ W.cell? ⟨w.heap.size, 0, none⟩ = some (.slice ac nc cc) ∧ W.cell? ⟨w.heap.size, 1, none⟩ = some (.slice ah nh ch) ∧ W.cell? ⟨x1, o1, none⟩ = some (.string (bl c1)) ∧ W.cell? ⟨x2, o2, none⟩ = some (.string (bl c2)))
      (first
        | exact KR _ (Below.refl _ _)
        | exact KR _ B0
        | exact KR _ BN
        | exact KR _ B2
        | exact KR _ b34
        | exact KR _ (b34.alloc b34.size _)
        | exact KR _ ((b34.setCell (by simp) _).setCell (by simp) _)
        | fail)
      (first
        | (go_at_call 36; refine (T _ B2).mono ?_; rintro e w4 ⟨_, rfl, ⟨a, n, c, a', n', c', az, nz, cz, rfl, hq, hz⟩, b4⟩; have b34 := B2.trans (b4.mono B2.size); obtain ⟨nb0, nb1, nbf⟩ := newBox b4; have DW := gotTwo b4 hq; have DZ := intsTwo (y0 := .slice a n c) (y1 := .slice a' n' c') b4 hz)
        | (go_at_call 36; refine (T _ B0).mono ?_; rintro e w4 ⟨_, rfl, ⟨a, n, c, a', n', c', az, nz, cz, rfl, hq, hz⟩, b4⟩; have b34 := B0.trans (b4.mono B0.size); have DW := gotOne b4 hq; have DZ := intsOne (y0 := .slice a n c) (y1 := .slice a' n' c') hz)
        | fail)
    all_goals
      clear T KR y0 y1 y2 y3 yf e0 e1 e2 e3 i0 i1 i2 i3
      go_wp2_with fail
      go_meet
      case rel => exact ⟨_, _, _, _, _, _, _, _, _, _, rfl, rfl, rfl, DW, DZ⟩
  case rest =>
    obtain ⟨nb, a, n, c, a', n', c', az, nz, cz, rfl, rfl, rfl, DW, DZ⟩ := hcut
    have b5 := hb3.trans (DW.low.mono hb3.size)
    obtain ⟨g0, g1⟩ := DW.cells
    obtain ⟨z0, z1, z2, z3, zf⟩ := hX.on b5
    clear T KR y0 y1 y2 y3 yf e0 e1 e2 e3 i0 i1 i2 i3
    by_cases h7 : p.2.2 = 7
    · have HO : Hid (mergeO r p = (r, [99, 108, 97, 115, 104, 32] ++ lsL (p.2.1.map dgL), 0)) := keepBack (if_pos h7)
      have hsz : ¬ 9223372036854775807 < 6 + (bl (lsL (p.2.1.map dgL))).size := by
        have := lsMap_len' p.2.1 hkeys (ints_ok DZ)
        rw [bl_size]; omega
      have DZD : Sl tInt wc.drew (fun _ => True) (.slice az nz cz) p.2.1 := DZ.keep fun _ _ _ => rfl
      have hcd : Below wc.heap.size wc wc.drew := (Below.refl _ _).drew
      go_wp2_with fail
      go_region_law (first
        | (go_simp; go_at_call 37; refine (refListed _ p.2.1 _ _ (by first | exact DZ | exact DZD) hkeys).mono ?_; rintro e w6 ⟨_, rfl, rfl, b6⟩; have b7 : Below wc.heap.size wc w6 := (by first | exact b6 | exact hcd.trans b6); have b8 := b5.trans (b7.mono b5.size); obtain ⟨v0, v1, v2, v3, vf⟩ := hX.on b8)
        | fail)
      all_goals
        clear z0 z1 z2 z3 zf
        go_wp2
        refine bodyPost_ret (joinResults rfl _ _ _ _ _ _ _ _ rfl rfl rfl (hX.fin b8 _ _).1) rfl ?_
        refine ⟨_, rfl, ?_, (hX.fin b8 _ _).2⟩
        unfold PlayedPost
        rw [HO.out]
        exact ⟨_, _, _, _, _, _, _, rfl, fun _ => ⟨bl_append _ _, (hR.call (hX.fin b8 _ _).2).more fun k hk _ => .inl hk⟩⟩
    · have HO : Hid (mergeO r p = (p.1, [111, 107], p.2.2)) := keepBack (if_neg h7)
      go_wp2
      refine bodyPost_ret (joinResults rfl _ _ _ _ _ _ _ _ rfl rfl rfl (hX.fin b5 _ _).1) rfl ?_
      refine ⟨_, rfl, ?_, (hX.fin b5 _ _).2⟩
      unfold PlayedPost
      rw [HO.out]
      exact ⟨_, _, _, _, _, _, _, rfl, fun h0 => ⟨rfl, gotFin hX ((DW.rep h0).more fun k hk _ => Nat.le_trans hb3.size hk)⟩⟩
end Go.Pch
end

section
namespace Go.Pch
open Go.RowKit Go.Proofs
set_option maxRecDepth 100000
set_option linter.unusedSimpArgs false
theorem wpAnyH_one {P : Program} {ops : Array Oper} {Q : Exit → Act → World → Prop} {md : Region.Mode} {S : World → Prop} {i : Nat} {o : Oper} {fuel : Nat} {listed : Array Bool} {a : Act} {w : World} (hr : Region.ready md ops listed = [i]) (ho : ops[i]? = some o)
    (h : ∀ K' : Act → World → Prop, (∀ a w, S w → wpAnyH P md ops Q S fuel (listed.setIfInBounds i true) a w → K' a w) → if Region.wanted o (yielded ops a.tmps) = true then Oper.wp P o a w K' Q else K' (a.put o.dst undef) w) :
    wpAnyH P md ops Q S (fuel + 1) listed a w := wpAnyH_all hr (by simp) fun j hj => by
  obtain rfl : j = i := by simpa using hj
  exact wpOp_step ho fun K' hK => h K' fun a w h1 h2 => hK a w ⟨h1, h2⟩
def Held (w : World) (cb T : Nat) : Prop := w.heap[cb]? = some (.cells #[.pointer (some ⟨T, 0, none⟩)] 29)
theorem Held.call {w w' : World} {cb T : Nat} (h : Held w cb T) (hb : Below w.heap.size w w') : Held w' cb T := (hb.block cb (Array.getElem?_eq_some_iff.1 h).1).trans h
theorem Held.lt {w : World} {cb T : Nat} (h : Held w cb T) : cb < w.heap.size := (Array.getElem?_eq_some_iff.1 h).1
theorem Held.ne [Zone] {w : World} {cb T : Nat} {r : Repo} (h : Held w cb T) (hD : DeskTab w T r) : cb ≠ T := by
  rintro rfl
  obtain ⟨⟨_, _, h1, _⟩, _⟩ := hD
  have := h1.symm.trans h
  simp at this
theorem Held.cell {w : World} {cb T : Nat} (h : Held w cb T) : w.cell? ⟨cb, 0, none⟩ = some (.pointer (some ⟨T, 0, none⟩)) := by rw [World.cell?, h]; rfl
set_option maxHeartbeats 4000000 in
theorem wordPut [Zone] (T cb : Nat) (r : Repo) (h k x : Bytes) (hr : repoErr r = 0) (w : World) (hV : Vars w) (hD : DeskTab w T r) (hc : Held w cb T) (v : Value) (hs : Sl tStr w (fun k => k ≠ T) v [bl h, bl k, bl x]) (hk : k.length ≤ 4096) (hx : x.length ≤ 4096) :
    Calls Tryz.prog 49 #[v, .pointer (some ⟨cb, 0, none⟩)] w (Does T w r (putO r h k x)) := by
  obtain ⟨b0, o0, ix0, n0, l0, c0⟩ := hs.idxStr aStr 0 0 (bl h) rfl rfl
  obtain ⟨b1, o1, ix1, _, l1, c1⟩ := hs.idxStr aStr 1 1 (bl k) rfl rfl
  obtain ⟨b2, o2, ix2, _, l2, c2⟩ := hs.idxStr aStr 2 2 (bl x) rfl rfl
  have S1 : ∀ W, Below w.heap.size w W → (Below w.heap.size w W ∧ W.cell? ⟨b1, o1, none⟩ = some (.string (bl k)) ∧ W.cell? ⟨b2, o2, none⟩ = some (.string (bl x))) := fun W hW => ⟨hW, (hW.cell (p := ⟨b1, o1, none⟩) l1).trans c1, (hW.cell (p := ⟨b2, o2, none⟩) l2).trans c2⟩
  have S0 := S1 _ (Below.refl w.heap.size w).drew
  cases hn : numP k with
  | none =>
    have HP : Hid (putO r h k x = noO 1) := keepBack (by rw [putO, hn])
    go_enter Tryz.func49, Tryz.ntmps49
    go_wp2_with fail
    refine wp_region_held (S := fun W => Below w.heap.size w W ∧ W.cell? ⟨b1, o1, none⟩ = some (.string (bl k)) ∧ W.cell? ⟨b2, o2, none⟩ = some (.string (bl x))) (by kernel_rfl) ?_
    change wpAnyH _ _ _ _ _ _ _ _ (World.drew _)
    refine wpAnyH_take (i := 0) (v := ?_) rfl (by kernel_rfl) (by kernel_rfl) (by kernel_rfl) (fun _ _ _ h => h) (Or.inl ⟨by rfl, ?hy1⟩) S0 ?rest1
    case hy1 => (intro W hW; obtain ⟨_, q1, q2⟩ := hW; go_simp; try with_reducible rfl)
    try simp only [Go.Act.put, List.setIfInBounds_toArray, List.set_cons_zero, List.set_cons_succ]
    refine wpAnyH_take (i := 1) (v := ?_) rfl (by kernel_rfl) (by kernel_rfl) (by kernel_rfl) (fun _ _ _ h => h) (Or.inl ⟨by rfl, ?hy2⟩) S0 ?rest2
    case hy2 => (intro W hW; obtain ⟨_, q1, q2⟩ := hW; go_simp; try with_reducible rfl)
    try simp only [Go.Act.put, List.setIfInBounds_toArray, List.set_cons_zero, List.set_cons_succ]
    refine wpAnyH_take (i := 2) (v := ?_) rfl (by kernel_rfl) (by kernel_rfl) (by kernel_rfl) (fun _ _ _ h => h) (Or.inl ⟨by rfl, ?hy3⟩) S0 ?rest3
    case hy3 => (intro W hW; obtain ⟨_, q1, q2⟩ := hW; go_simp; try with_reducible rfl)
    try simp only [Go.Act.put, List.setIfInBounds_toArray, List.set_cons_zero, List.set_cons_succ]
    refine wpAnyH_take (i := 4) (v := ?_) rfl (by kernel_rfl) (by kernel_rfl) (by kernel_rfl) (fun _ _ _ h => h) (Or.inl ⟨by rfl, ?hy4⟩) S0 ?rest4
    case hy4 => (intro W hW; obtain ⟨_, q1, q2⟩ := hW; go_simp; try with_reducible rfl)
    try simp only [Go.Act.put, List.setIfInBounds_toArray, List.set_cons_zero, List.set_cons_succ]
    refine wpAnyH_take (i := 5) (v := ?_) rfl (by kernel_rfl) (by kernel_rfl) (by kernel_rfl) (fun _ _ _ h => h) (Or.inl ⟨by rfl, ?hy5⟩) S0 ?rest5
    case hy5 => (intro W hW; obtain ⟨_, q1, q2⟩ := hW; go_simp; try with_reducible rfl)
    try simp only [Go.Act.put, List.setIfInBounds_toArray, List.set_cons_zero, List.set_cons_succ]
    refine wpAnyH_take (i := 6) (v := ?_) rfl (by kernel_rfl) (by kernel_rfl) (by kernel_rfl) (fun _ _ _ h => h) (Or.inl ⟨by rfl, ?hy6⟩) S0 ?rest6
    case hy6 => (intro W hW; obtain ⟨_, q1, q2⟩ := hW; go_simp; try with_reducible rfl)
    try simp only [Go.Act.put, List.setIfInBounds_toArray, List.set_cons_zero, List.set_cons_succ]
    refine wpAnyH_one (i := 3) (by kernel_rfl) rfl (fun K hK => ?_)
    go_simp
    refine (deskNum k hk w.drew (hV.call (Below.refl w.heap.size w).drew)).mono ?_; rintro e w1 ⟨bw1, hq⟩
    rw [hn] at hq
    subst hq
    refine ⟨rfl, ?_⟩
    rw [HP.out]
    have b01 : Below w.heap.size w w1 := (Below.refl w.heap.size w).drew.trans (bw1.mono (by simp))
    exact Does.no (by decide) (Step.of_below b01) rfl (hD.call b01)
  | some n =>
    cases hm : numP x with
    | none =>
      have HP : Hid (putO r h k x = noO 1) := keepBack (by rw [putO, hn, hm])
      go_enter Tryz.func49, Tryz.ntmps49
      go_wp2_with fail
      refine wp_region_held (S := fun W => Below w.heap.size w W ∧ W.cell? ⟨b1, o1, none⟩ = some (.string (bl k)) ∧ W.cell? ⟨b2, o2, none⟩ = some (.string (bl x))) (by kernel_rfl) ?_
      change wpAnyH _ _ _ _ _ _ _ _ (World.drew _)
      refine wpAnyH_take (i := 0) (v := ?_) rfl (by kernel_rfl) (by kernel_rfl) (by kernel_rfl) (fun _ _ _ h => h) (Or.inl ⟨by rfl, ?hy7⟩) S0 ?rest7
      case hy7 => (intro W hW; obtain ⟨_, q1, q2⟩ := hW; go_simp; try with_reducible rfl)
      try simp only [Go.Act.put, List.setIfInBounds_toArray, List.set_cons_zero, List.set_cons_succ]
      refine wpAnyH_take (i := 1) (v := ?_) rfl (by kernel_rfl) (by kernel_rfl) (by kernel_rfl) (fun _ _ _ h => h) (Or.inl ⟨by rfl, ?hy8⟩) S0 ?rest8
      case hy8 => (intro W hW; obtain ⟨_, q1, q2⟩ := hW; go_simp; try with_reducible rfl)
      try simp only [Go.Act.put, List.setIfInBounds_toArray, List.set_cons_zero, List.set_cons_succ]
      refine wpAnyH_take (i := 2) (v := ?_) rfl (by kernel_rfl) (by kernel_rfl) (by kernel_rfl) (fun _ _ _ h => h) (Or.inl ⟨by rfl, ?hy9⟩) S0 ?rest9
      case hy9 => (intro W hW; obtain ⟨_, q1, q2⟩ := hW; go_simp; try with_reducible rfl)
      try simp only [Go.Act.put, List.setIfInBounds_toArray, List.set_cons_zero, List.set_cons_succ]
      refine wpAnyH_take (i := 4) (v := ?_) rfl (by kernel_rfl) (by kernel_rfl) (by kernel_rfl) (fun _ _ _ h => h) (Or.inl ⟨by rfl, ?hy10⟩) S0 ?rest10
      case hy10 => (intro W hW; obtain ⟨_, q1, q2⟩ := hW; go_simp; try with_reducible rfl)
      try simp only [Go.Act.put, List.setIfInBounds_toArray, List.set_cons_zero, List.set_cons_succ]
      refine wpAnyH_take (i := 5) (v := ?_) rfl (by kernel_rfl) (by kernel_rfl) (by kernel_rfl) (fun _ _ _ h => h) (Or.inl ⟨by rfl, ?hy11⟩) S0 ?rest11
      case hy11 => (intro W hW; obtain ⟨_, q1, q2⟩ := hW; go_simp; try with_reducible rfl)
      try simp only [Go.Act.put, List.setIfInBounds_toArray, List.set_cons_zero, List.set_cons_succ]
      refine wpAnyH_take (i := 6) (v := ?_) rfl (by kernel_rfl) (by kernel_rfl) (by kernel_rfl) (fun _ _ _ h => h) (Or.inl ⟨by rfl, ?hy12⟩) S0 ?rest12
      case hy12 => (intro W hW; obtain ⟨_, q1, q2⟩ := hW; go_simp; try with_reducible rfl)
      try simp only [Go.Act.put, List.setIfInBounds_toArray, List.set_cons_zero, List.set_cons_succ]
      refine wpAnyH_one (i := 3) (by kernel_rfl) rfl (fun K hK => ?_)
      go_simp
      refine (deskNum k hk w.drew (hV.call (Below.refl w.heap.size w).drew)).mono ?_; rintro e w1 ⟨bw1, hq⟩
      rw [hn] at hq
      subst hq
      have b01 : Below w.heap.size w w1 := (Below.refl w.heap.size w).drew.trans (bw1.mono (by simp))
      refine hK _ _ (S1 _ b01) ?_
      clear hK K
      refine wpAnyH_one (i := 7) (by kernel_rfl) rfl (fun K hK => ?_)
      go_simp
      refine (deskNum x hx w1 (hV.call b01)).mono ?_; rintro e w2 ⟨bw2, hq⟩
      rw [hm] at hq
      subst hq
      refine ⟨rfl, ?_⟩
      rw [HP.out]
      have b02 : Below w.heap.size w w2 := b01.trans (bw2.mono b01.size)
      exact Does.no (by decide) (Step.of_below b02) rfl (hD.call b02)
    | some m =>
      have HP : Hid (putO r h k x = okO (chgP r h n m)) := keepBack (by rw [putO, hn, hm])
      have nk := numP_lt hn
      have nx := numP_lt hm
      go_enter Tryz.func49, Tryz.ntmps49
      go_wp2_with fail
      refine wp_region_held (S := fun W => Below w.heap.size w W ∧ W.cell? ⟨b1, o1, none⟩ = some (.string (bl k)) ∧ W.cell? ⟨b2, o2, none⟩ = some (.string (bl x))) (by kernel_rfl) ?_
      change wpAnyH _ _ _ _ _ _ _ _ (World.drew _)
      refine wpAnyH_take (i := 0) (v := ?_) rfl (by kernel_rfl) (by kernel_rfl) (by kernel_rfl) (fun _ _ _ h => h) (Or.inl ⟨by rfl, ?hy13⟩) S0 ?rest13
      case hy13 => (intro W hW; obtain ⟨_, q1, q2⟩ := hW; go_simp; try with_reducible rfl)
      try simp only [Go.Act.put, List.setIfInBounds_toArray, List.set_cons_zero, List.set_cons_succ]
      refine wpAnyH_take (i := 1) (v := ?_) rfl (by kernel_rfl) (by kernel_rfl) (by kernel_rfl) (fun _ _ _ h => h) (Or.inl ⟨by rfl, ?hy14⟩) S0 ?rest14
      case hy14 => (intro W hW; obtain ⟨_, q1, q2⟩ := hW; go_simp; try with_reducible rfl)
      try simp only [Go.Act.put, List.setIfInBounds_toArray, List.set_cons_zero, List.set_cons_succ]
      refine wpAnyH_take (i := 2) (v := ?_) rfl (by kernel_rfl) (by kernel_rfl) (by kernel_rfl) (fun _ _ _ h => h) (Or.inl ⟨by rfl, ?hy15⟩) S0 ?rest15
      case hy15 => (intro W hW; obtain ⟨_, q1, q2⟩ := hW; go_simp; try with_reducible rfl)
      try simp only [Go.Act.put, List.setIfInBounds_toArray, List.set_cons_zero, List.set_cons_succ]
      refine wpAnyH_take (i := 4) (v := ?_) rfl (by kernel_rfl) (by kernel_rfl) (by kernel_rfl) (fun _ _ _ h => h) (Or.inl ⟨by rfl, ?hy16⟩) S0 ?rest16
      case hy16 => (intro W hW; obtain ⟨_, q1, q2⟩ := hW; go_simp; try with_reducible rfl)
      try simp only [Go.Act.put, List.setIfInBounds_toArray, List.set_cons_zero, List.set_cons_succ]
      refine wpAnyH_take (i := 5) (v := ?_) rfl (by kernel_rfl) (by kernel_rfl) (by kernel_rfl) (fun _ _ _ h => h) (Or.inl ⟨by rfl, ?hy17⟩) S0 ?rest17
      case hy17 => (intro W hW; obtain ⟨_, q1, q2⟩ := hW; go_simp; try with_reducible rfl)
      try simp only [Go.Act.put, List.setIfInBounds_toArray, List.set_cons_zero, List.set_cons_succ]
      refine wpAnyH_take (i := 6) (v := ?_) rfl (by kernel_rfl) (by kernel_rfl) (by kernel_rfl) (fun _ _ _ h => h) (Or.inl ⟨by rfl, ?hy18⟩) S0 ?rest18
      case hy18 => (intro W hW; obtain ⟨_, q1, q2⟩ := hW; go_simp; try with_reducible rfl)
      try simp only [Go.Act.put, List.setIfInBounds_toArray, List.set_cons_zero, List.set_cons_succ]
      refine wpAnyH_one (i := 3) (by kernel_rfl) rfl (fun K hK => ?_)
      go_simp
      refine (deskNum k hk w.drew (hV.call (Below.refl w.heap.size w).drew)).mono ?_; rintro e w1 ⟨bw1, hq⟩
      rw [hn] at hq
      subst hq
      have b01 : Below w.heap.size w w1 := (Below.refl w.heap.size w).drew.trans (bw1.mono (by simp))
      refine hK _ _ (S1 _ b01) ?_
      clear hK K
      refine wpAnyH_one (i := 7) (by kernel_rfl) rfl (fun K hK => ?_)
      go_simp
      refine (deskNum x hx w1 (hV.call b01)).mono ?_; rintro e w2 ⟨bw2, hq⟩
      rw [hm] at hq
      subst hq
      have b02 : Below w.heap.size w w2 := b01.trans (bw2.mono b01.size)
      refine hK _ _ (S1 _ b02) ?_
      clear hK K
      refine wpAnyH_one (i := 8) (by kernel_rfl) rfl (fun K hK => ?_)
      go_simp
      refine hK _ _ (S1 _ b02) ?_
      clear hK K
      refine wpAnyH_one (i := 9) (by kernel_rfl) rfl (fun K hK => ?_)
      go_simp
      refine hK _ _ (S1 _ b02) ?_
      clear hK K
      refine wpAnyH_done (by kernel_rfl) ?_ _
      have c0' := (b02.cell (p := ⟨b0, o0, none⟩) l0).trans c0
      have cc' := (hc.call b02).cell
      have nT0 : b0 ≠ T := n0
      have lc := hc.lt
      have nTc := hc.ne hD
      go_wp2_with fail
      refine wp_region_held (S := fun W => W.cell? ⟨cb, 0, none⟩ = some (.pointer (some ⟨T, 0, none⟩)) ∧ W.cell? ⟨b0, o0, none⟩ = some (.string (bl h))) (by kernel_rfl) ?_
      change wpAnyH _ _ _ _ _ _ _ _ (World.drew _)
      have S9 : ∀ W, Below w.heap.size w W → (W.cell? ⟨cb, 0, none⟩ = some (.pointer (some ⟨T, 0, none⟩)) ∧ W.cell? ⟨b0, o0, none⟩ = some (.string (bl h))) := fun W hW => ⟨(hc.call hW).cell, (hW.cell (p := ⟨b0, o0, none⟩) l0).trans c0⟩
      have b9 := b02.trans ((Below.refl _ _).drew.mono b02.size)
      refine wpAnyH_take (i := 0) (v := ?_) rfl (by kernel_rfl) (by kernel_rfl) (by kernel_rfl) (fun _ _ _ h => h) (Or.inl ⟨by rfl, ?hy19⟩) (S9 _ b9) ?rest19
      case hy19 => (intro W hW; obtain ⟨q1, q2⟩ := hW; go_simp; try with_reducible rfl)
      try simp only [Go.Act.put, List.setIfInBounds_toArray, List.set_cons_zero, List.set_cons_succ]
      refine wpAnyH_take (i := 1) (v := ?_) rfl (by kernel_rfl) (by kernel_rfl) (by kernel_rfl) (fun _ _ _ h => h) (Or.inl ⟨by rfl, ?hy20⟩) (S9 _ b9) ?rest20
      case hy20 => (intro W hW; obtain ⟨q1, q2⟩ := hW; go_simp; try with_reducible rfl)
      try simp only [Go.Act.put, List.setIfInBounds_toArray, List.set_cons_zero, List.set_cons_succ]
      refine wpAnyH_take (i := 2) (v := ?_) rfl (by kernel_rfl) (by kernel_rfl) (by kernel_rfl) (fun _ _ _ h => h) (Or.inl ⟨by rfl, ?hy21⟩) (S9 _ b9) ?rest21
      case hy21 => (intro W hW; obtain ⟨q1, q2⟩ := hW; go_simp; try with_reducible rfl)
      try simp only [Go.Act.put, List.setIfInBounds_toArray, List.set_cons_zero, List.set_cons_succ]
      refine wpAnyH_take (i := 3) (v := ?_) rfl (by kernel_rfl) (by kernel_rfl) (by kernel_rfl) (fun _ _ _ h => h) (Or.inl ⟨by rfl, ?hy22⟩) (S9 _ b9) ?rest22
      case hy22 => (intro W hW; obtain ⟨q1, q2⟩ := hW; go_simp; try with_reducible rfl)
      try simp only [Go.Act.put, List.setIfInBounds_toArray, List.set_cons_zero, List.set_cons_succ]
      refine wpAnyH_take (i := 4) (v := ?_) rfl (by kernel_rfl) (by kernel_rfl) (by kernel_rfl) (fun _ _ _ h => h) (Or.inl ⟨by rfl, ?hy23⟩) (S9 _ b9) ?rest23
      case hy23 => (intro W hW; obtain ⟨q1, q2⟩ := hW; go_simp; try with_reducible rfl)
      try simp only [Go.Act.put, List.setIfInBounds_toArray, List.set_cons_zero, List.set_cons_succ]
      refine wpAnyH_take (i := 5) (v := ?_) rfl (by kernel_rfl) (by kernel_rfl) (by kernel_rfl) (fun _ _ _ h => h) (Or.inl ⟨by rfl, ?hy24⟩) (S9 _ b9) ?rest24
      case hy24 => (intro W hW; obtain ⟨q1, q2⟩ := hW; go_simp; try with_reducible rfl)
      try simp only [Go.Act.put, List.setIfInBounds_toArray, List.set_cons_zero, List.set_cons_succ]
      refine wpAnyH_one (i := 6) (by kernel_rfl) rfl (fun K hK => ?_)
      go_simp
      refine (deskPut T r h n m ⟨by omega, by omega⟩ ⟨by omega, by omega⟩ hr _ ((hD.call b02).call (Below.refl _ _).drew)).mono ?_; rintro e w9 hdo
      have hdo : Does T w r (putO r h k x) e w9 := by rw [HP.out]; exact hdo.after (Step.of_below b9)
      obtain ⟨hst, hif⟩ := hdo
      by_cases hp0 : (putO r h k x).2.2 = 0
      · rw [if_pos hp0] at hif
        obtain ⟨rfl, ht⟩ := hif
        refine hK _ _ ⟨(hst.cell (p := ⟨cb, 0, none⟩) lc nTc).trans hc.cell, (hst.cell (p := ⟨b0, o0, none⟩) l0 nT0).trans c0⟩ ?_
        clear hK K
        refine wpAnyH_one (i := 7) (by kernel_rfl) rfl (fun K hK => ?_)
        go_simp
        refine hK _ _ ⟨(hst.cell (p := ⟨cb, 0, none⟩) lc nTc).trans hc.cell, (hst.cell (p := ⟨b0, o0, none⟩) l0 nT0).trans c0⟩ ?_
        clear hK K
        refine wpAnyH_done (by kernel_rfl) ?_ _
        go_wp2
        go_ret
        exact Does.ok hp0 hst rfl ht
      · rw [if_neg hp0] at hif
        obtain ⟨rfl, ht⟩ := hif
        exact ⟨rfl, Does.no hp0 hst rfl ht⟩
end Go.Pch
end
