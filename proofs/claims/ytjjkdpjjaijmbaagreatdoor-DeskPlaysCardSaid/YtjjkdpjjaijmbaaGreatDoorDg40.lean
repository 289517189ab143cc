/- The document's desk: a line: put. (gen_dmc.py) The document's desk: a line: cut. (gen_dmc.py) The walk of the document's BranchOf. -/
import Derived.Test.YtjjkdpjjaijmbaaGreatDoorDg39
import Derived.Test.YtjjkdpjjaijmbaaGreatDoorDg28
import Derived.Test.YtjjkdpjjaijmbaaGreatDoorDg21
section
namespace Go.Pch
open Go.RowKit Go.Proofs
set_option maxRecDepth 100000
set_option linter.unusedVariables false
set_option maxHeartbeats 4000000 in
theorem playedPut (v : Value) (r : Repo) (s : Bytes) (hs : s.length ≤ 4096) (hr : repoErr r = 0) (S : Blk) (w : World) (h : Rp w S v r) {N : Nat} {c0 c1 c2 c3 : Bytes} (hP : Padded s N c0 c1 c2 c3) {k2 k3 : Int} (hk2 : numI (numP c2) = k2) (hk3 : numI (numP c3) = k3) (hlen : N = 4) (h2 : 0 ≤ k2) (h2m : k2 ≤ 1000000) (h3 : 0 ≤ k3) (h3m : k3 ≤ 1000000) (hw : c0 = wPut) :
    Calls Tryz.prog 16 #[v, .string (bl s)] w (Ret w (PlayedPost w.heap.size S (okO (chgP r c1 k2 k3)))) := by
  obtain ⟨p, hp⟩ : ∃ p, p = chgP r c1 k2 k3 := ⟨_, rfl⟩
  rw [← hp]
  have HP := keepBack hp
  clear hp
  have hR := h
  have HK2 := keepBack hk2
  have HK3 := keepBack hk3
  clear hk2 hk3
  have hl2 := Nat.le_trans (pad_short s _ _ hP.w2) hs
  have hl3 := Nat.le_trans (pad_short s _ _ hP.w3) hs
  have HC0 := keepBack hw
  clear hw
  have HLEN := keepBack hlen
  clear hlen
  obtain ⟨vc, vh, rfl, hc, hh⟩ := h
  obtain ⟨ac, cc, hvc, _, _, _⟩ := hc.shape
  obtain ⟨ah, ch, hvh, _, _, _⟩ := hh.shape
  obtain ⟨nc, hnc⟩ : ∃ n, n = r.1.length := ⟨_, rfl⟩
  obtain ⟨nh, hnh⟩ : ∃ n, n = r.2.length := ⟨_, rfl⟩
  rw [← hnc] at hvc
  rw [← hnh] at hvh
  clear hnc hnh
  subst hvc hvh
  clear hc hh
  have hX := boxAt w (.slice ac nc cc) (.slice ah nh ch)
  obtain ⟨wB, hwB⟩ : ∃ wB, wB = (w.alloc (.cells #[.slice ac nc cc, .slice ah nh ch] 33)).alloc (.cells #[.slice none 0 0, .slice none 0 0] 33) := ⟨_, rfl⟩
  rw [← hwB] at hX
  have HWB := keepBack hwB
  clear hwB
  have HZB := keepBack hX.size
  go_enter Tryz.func16, Tryz.ntmps16
  go_wp2_with fail
  rw [← HWB.out]
  refine (refSplit s hs wB).mono ?_; rintro e w1 ⟨_, rfl, ho, b1⟩
  obtain ⟨ag, cg, hv, _, _⟩ := ho.shape
  rw [List.length_map, hP.len] at hv
  have hNs : N ≤ 4097 := by rw [← hP.len, spl_len]; have := List.count_le_length (a := (32 : UInt8)) (l := s); omega
  have hN1 : 1 ≤ N := by rw [← hP.len, spl_len]; omega
  subst hv
  have hob := ho.block
  have z1 := b1.size
  have hsrc := srcEmpty w1 (fun _ => False)
  go_wp2_with (at_builtin; refine wpList_grow rfl (.tmp 37) (.tmp 38) rfl aStr rfl (ho.alloc _) rfl rfl hsrc (by simp) (fun _ h => h.elim) (by rw [List.length_map, hP.len]; simp only [List.length_cons, List.length_nil]; omega) (by simp; omega) ?_)
  intro v2 w2 ho2 hg2
  have hb2 : Below wB.heap.size wB w2 := (b1.alloc (by have := b1.size; omega) _).grown hg2 (by have := b1.size; simp; omega) (fun g hg => (hob g hg).1)
  clear hsrc hg2 hob
  have hsl : Sl tStr w2 (fun k => wB.heap.size ≤ k) v2 ((spl s ++ [[], [], [], []]).map bl) := by rw [List.map_append]; exact ho2.sl (fun _ h => h.elim) (fun _ h => h)
  clear ho2 ho
  obtain ⟨⟨a2, g2, hv⟩, x0, o0, x1, o1, x2, o2, x3, o3, hA⟩ := padAt hP hsl
  clear hsl
  have hN : N = 4 := HLEN.out
  subst hN
  replace hv : v2 = .slice a2 8 g2 := hv
  subst hv
  clear hNs hN1
  have i0 := hA.i0
  have i1 := hA.i1
  have i2 := hA.i2
  have i3 := hA.i3
  have HA := keepBack hA
  have KS : Hid (∀ W, Below w2.heap.size w2 W → Below w2.heap.size w2 W ∧ W.cell? ⟨x2, o2, none⟩ = some (.string (bl c2)) ∧ W.cell? ⟨x3, o3, none⟩ = some (.string (bl c3))) := keepBack fun W hW => ⟨hW, (hA.call hW).e2, (hA.call hW).e3⟩
  clear hA
  go_wp2_with fail
  go_region_held3 (fun W => Below w2.heap.size w2 W ∧ W.cell? ⟨x2, o2, none⟩ = some (.string (bl c2)) ∧ W.cell? ⟨x3, o3, none⟩ = some (.string (bl c3)))
    (first
      | exact KS.out _ (by assumption)
      | exact KS.out _ (Below.refl _ _)
      | exact KS.out _ (Below.refl _ _).drew
      | exact KS.out _ (Below.drew (by assumption))
      | fail)
    (first
      | (go_at_call 32; refine (refNum _ (by first | exact hl2 | exact hl3) _).mono ?_; rintro e w3 ⟨_, rfl, rfl, b3⟩; have cB : Below w2.heap.size w2 w3 := below_onD (by first | assumption | exact (Below.refl _ _).drew | exact Below.refl _ _ | exact Below.drew (by assumption)) b3)
      | fail)
  have hl1 := Nat.le_trans (pad_short s _ _ hP.w1) hs
  clear KS hl2 hl3
  rw [HK2.out, HK3.out]
  have b23 : Below w2.heap.size w2 w3 := by assumption
  have hb3 := hb2.trans (b23.mono hb2.size)
  have hA3 := HA.out.call b23
  have e0 := hA3.e0
  have e1 := hA3.e1
  have e2 := hA3.e2
  have e3 := hA3.e3
  have HA3 := keepBack hA3
  clear hA3
  obtain ⟨y0, y1, y2, y3, yf⟩ := hX.on hb3
  clear b1 hb2
  have q0 : (bl c0).toList = [112, 117, 116] := by rw [bl_list, HC0.out]; decide
  have B0 : Below w3.heap.size w3 w3.drew := (Below.refl _ _).drew
  have B2 : Below w3.heap.size w3 (w3.alloc (.cells #[.slice none 0 0, .slice none 0 0] 33)).drew := ((Below.refl _ _).alloc (Nat.le_refl _) _).drew
  have X0 := overBox y0
  have X1 := overBox y1
  have E1 := overBox e1
  have E2 := overBox e2
  have hR3 : Rp w3 S (.agg #[.slice ac nc cc, .slice ah nh ch]) r := hR.call (hX.low.trans (hb3.mono (by rw [HZB.out]; omega)))
  have T : ∀ W, Below w3.heap.size w3 W → Calls Tryz.prog 33 #[.agg #[.slice ac nc cc, .slice ah nh ch], .string (bl c1), .int .i64 k2, .int .i64 k3] W (Ret W (RepoOr p (fun k => W.heap.size ≤ k))) := fun W hW => by
    rw [HP.out]
    exact refOneChange _ r c1 k2 k3 (ok_small (by omega)) (ok_small (by omega)) (by omega) hr S W (hR3.call hW)
  go_wp2_with fail
  go_region_law (first
    | (go_simp; go_at_call 33; refine (T _ B2).mono ?_; rintro e w4 ⟨_, rfl, ⟨a, n, c, a', n', c', rfl, hq⟩, b4⟩; obtain ⟨nb0, nb1, nbf⟩ := newBox b4; have DW := gotTwo b4 hq)
    | (go_simp; go_at_call 33; refine (T _ B0).mono ?_; rintro e w4 ⟨_, rfl, ⟨a, n, c, a', n', c', rfl, hq⟩, b4⟩; have DW := gotOne b4 hq)
    | fail)
  all_goals
    have b5 := hb3.trans (DW.low.mono hb3.size)
    obtain ⟨g0, g1⟩ := DW.cells
    obtain ⟨_, _, z2, z3, zf⟩ := hX.on b5
    clear T y0 y1 y2 y3 yf e0 e1 e2 e3 X0 X1 E1 E2 i0 i1 i2 i3
    go_wp2
    refine bodyPost_ret (joinResults rfl _ _ _ _ _ _ _ _ rfl rfl rfl (hX.fin b5 _ _).1) rfl ?_
    exact ⟨_, rfl, ⟨_, _, _, _, _, _, _, rfl, fun h0 => ⟨rfl, gotFin hX ((DW.rep h0).more fun k hk _ => Nat.le_trans hb3.size hk)⟩⟩, (hX.fin b5 _ _).2⟩
end Go.Pch
end

section
namespace Go.Pch
open Go.RowKit Go.Proofs
set_option maxRecDepth 100000
set_option linter.unusedVariables false
set_option maxHeartbeats 4000000 in
theorem playedCut (v : Value) (r : Repo) (s : Bytes) (hs : s.length ≤ 4096) (hr : repoErr r = 0) (S : Blk) (w : World) (h : Rp w S v r) {N : Nat} {c0 c1 c2 c3 : Bytes} (hP : Padded s N c0 c1 c2 c3) {k2 k3 : Int} (hk2 : numI (numP c2) = k2) (hk3 : numI (numP c3) = k3) (hlen : N = 3) (h2 : 0 ≤ k2) (h2m : k2 ≤ 1000000) (hw : c0 = wCut) :
    Calls Tryz.prog 16 #[v, .string (bl s)] w (Ret w (PlayedPost w.heap.size S (okO (chgP r c1 k2 (-1))))) := by
  obtain ⟨p, hp⟩ : ∃ p, p = chgP r c1 k2 (-1) := ⟨_, rfl⟩
  rw [← hp]
  have HP := keepBack hp
  clear hp
  have hR := h
  have HK2 := keepBack hk2
  have HK3 := keepBack hk3
  clear hk2 hk3
  have hl2 := Nat.le_trans (pad_short s _ _ hP.w2) hs
  have hl3 := Nat.le_trans (pad_short s _ _ hP.w3) hs
  have HC0 := keepBack hw
  clear hw
  have HLEN := keepBack hlen
  clear hlen
  obtain ⟨vc, vh, rfl, hc, hh⟩ := h
  obtain ⟨ac, cc, hvc, _, _, _⟩ := hc.shape
  obtain ⟨ah, ch, hvh, _, _, _⟩ := hh.shape
  obtain ⟨nc, hnc⟩ : ∃ n, n = r.1.length := ⟨_, rfl⟩
  obtain ⟨nh, hnh⟩ : ∃ n, n = r.2.length := ⟨_, rfl⟩
  rw [← hnc] at hvc
  rw [← hnh] at hvh
  clear hnc hnh
  subst hvc hvh
  clear hc hh
  have hX := boxAt w (.slice ac nc cc) (.slice ah nh ch)
  obtain ⟨wB, hwB⟩ : ∃ wB, wB = (w.alloc (.cells #[.slice ac nc cc, .slice ah nh ch] 33)).alloc (.cells #[.slice none 0 0, .slice none 0 0] 33) := ⟨_, rfl⟩
  rw [← hwB] at hX
  have HWB := keepBack hwB
  clear hwB
  have HZB := keepBack hX.size
  go_enter Tryz.func16, Tryz.ntmps16
  go_wp2_with fail
  rw [← HWB.out]
  refine (refSplit s hs wB).mono ?_; rintro e w1 ⟨_, rfl, ho, b1⟩
  obtain ⟨ag, cg, hv, _, _⟩ := ho.shape
  rw [List.length_map, hP.len] at hv
  have hNs : N ≤ 4097 := by rw [← hP.len, spl_len]; have := List.count_le_length (a := (32 : UInt8)) (l := s); omega
  have hN1 : 1 ≤ N := by rw [← hP.len, spl_len]; omega
  subst hv
  have hob := ho.block
  have z1 := b1.size
  have hsrc := srcEmpty w1 (fun _ => False)
  go_wp2_with (at_builtin; refine wpList_grow rfl (.tmp 37) (.tmp 38) rfl aStr rfl (ho.alloc _) rfl rfl hsrc (by simp) (fun _ h => h.elim) (by rw [List.length_map, hP.len]; simp only [List.length_cons, List.length_nil]; omega) (by simp; omega) ?_)
  intro v2 w2 ho2 hg2
  have hb2 : Below wB.heap.size wB w2 := (b1.alloc (by have := b1.size; omega) _).grown hg2 (by have := b1.size; simp; omega) (fun g hg => (hob g hg).1)
  clear hsrc hg2 hob
  have hsl : Sl tStr w2 (fun k => wB.heap.size ≤ k) v2 ((spl s ++ [[], [], [], []]).map bl) := by rw [List.map_append]; exact ho2.sl (fun _ h => h.elim) (fun _ h => h)
  clear ho2 ho
  obtain ⟨⟨a2, g2, hv⟩, x0, o0, x1, o1, x2, o2, x3, o3, hA⟩ := padAt hP hsl
  clear hsl
  have hN : N = 3 := HLEN.out
  subst hN
  replace hv : v2 = .slice a2 7 g2 := hv
  subst hv
  clear hNs hN1
  have i0 := hA.i0
  have i1 := hA.i1
  have i2 := hA.i2
  have i3 := hA.i3
  have HA := keepBack hA
  have KS : Hid (∀ W, Below w2.heap.size w2 W → Below w2.heap.size w2 W ∧ W.cell? ⟨x2, o2, none⟩ = some (.string (bl c2)) ∧ W.cell? ⟨x3, o3, none⟩ = some (.string (bl c3))) := keepBack fun W hW => ⟨hW, (hA.call hW).e2, (hA.call hW).e3⟩
  clear hA
  go_wp2_with fail
  go_region_held3 (fun W => Below w2.heap.size w2 W ∧ W.cell? ⟨x2, o2, none⟩ = some (.string (bl c2)) ∧ W.cell? ⟨x3, o3, none⟩ = some (.string (bl c3)))
    (first
      | exact KS.out _ (by assumption)
      | exact KS.out _ (Below.refl _ _)
      | exact KS.out _ (Below.refl _ _).drew
      | exact KS.out _ (Below.drew (by assumption))
      | fail)
    (first
      | (go_at_call 32; refine (refNum _ (by first | exact hl2 | exact hl3) _).mono ?_; rintro e w3 ⟨_, rfl, rfl, b3⟩; have cB : Below w2.heap.size w2 w3 := below_onD (by first | assumption | exact (Below.refl _ _).drew | exact Below.refl _ _ | exact Below.drew (by assumption)) b3)
      | fail)
  have hl1 := Nat.le_trans (pad_short s _ _ hP.w1) hs
  clear KS hl2 hl3
  rw [HK2.out, HK3.out]
  have b23 : Below w2.heap.size w2 w3 := by assumption
  have hb3 := hb2.trans (b23.mono hb2.size)
  have hA3 := HA.out.call b23
  have e0 := hA3.e0
  have e1 := hA3.e1
  have e2 := hA3.e2
  have e3 := hA3.e3
  have HA3 := keepBack hA3
  clear hA3
  obtain ⟨y0, y1, y2, y3, yf⟩ := hX.on hb3
  clear b1 hb2
  have q0 : ¬ (bl c0).toList = [112, 117, 116] := by rw [bl_list, HC0.out]; decide
  have q1 : (bl c0).toList = [99, 117, 116] := by rw [bl_list, HC0.out]; decide
  have B0 : Below w3.heap.size w3 w3.drew := (Below.refl _ _).drew
  have B2 : Below w3.heap.size w3 (w3.alloc (.cells #[.slice none 0 0, .slice none 0 0] 33)).drew := ((Below.refl _ _).alloc (Nat.le_refl _) _).drew
  have X0 := overBox y0
  have X1 := overBox y1
  have E1 := overBox e1
  have E2 := overBox e2
  have hR3 : Rp w3 S (.agg #[.slice ac nc cc, .slice ah nh ch]) r := hR.call (hX.low.trans (hb3.mono (by rw [HZB.out]; omega)))
  have T : ∀ W, Below w3.heap.size w3 W → Calls Tryz.prog 33 #[.agg #[.slice ac nc cc, .slice ah nh ch], .string (bl c1), .int .i64 k2, .int .i64 (-1)] W (Ret W (RepoOr p (fun k => W.heap.size ≤ k))) := fun W hW => by
    rw [HP.out]
    exact refOneChange _ r c1 k2 (-1) (ok_small (by omega)) (by unfold i64ok; omega) (by omega) hr S W (hR3.call hW)
  go_wp2_with fail
  go_region_law (first
    | (go_simp; go_at_call 33; refine (T _ B2).mono ?_; rintro e w4 ⟨_, rfl, ⟨a, n, c, a', n', c', rfl, hq⟩, b4⟩; obtain ⟨nb0, nb1, nbf⟩ := newBox b4; have DW := gotTwo b4 hq)
    | (go_simp; go_at_call 33; refine (T _ B0).mono ?_; rintro e w4 ⟨_, rfl, ⟨a, n, c, a', n', c', rfl, hq⟩, b4⟩; have DW := gotOne b4 hq)
    | fail)
  all_goals
    have b5 := hb3.trans (DW.low.mono hb3.size)
    obtain ⟨g0, g1⟩ := DW.cells
    obtain ⟨_, _, z2, z3, zf⟩ := hX.on b5
    clear T y0 y1 y2 y3 yf e0 e1 e2 e3 X0 X1 E1 E2 i0 i1 i2 i3
    go_wp2
    refine bodyPost_ret (joinResults rfl _ _ _ _ _ _ _ _ rfl rfl rfl (hX.fin b5 _ _).1) rfl ?_
    exact ⟨_, rfl, ⟨_, _, _, _, _, _, _, rfl, fun h0 => ⟨rfl, gotFin hX ((DW.rep h0).more fun k hk _ => Nat.le_trans hb3.size hk)⟩⟩, (hX.fin b5 _ _).2⟩
end Go.Pch
end

section
namespace Go.Pch
open Go.RowKit Go.Proofs
set_option maxRecDepth 100000
theorem hd_before : ∀ {hs : List Head} {s : ByteArray} {j : Nat} {x : Head}, j < hdN hs s → hs[j]? = some x → Op.bytesLess x.1.toList s.toList = true
  | [], _, _, _, h, _ => by simp [hdN] at h
  | y :: hs, s, j, x, h, hx => by
    rw [hdN] at h
    split at h
    · rename_i hy
      cases j with
      | zero => simp only [List.getElem?_cons_zero, Option.some.injEq] at hx; subst hx; exact hy
      | succ j => exact hd_before (hs := hs) (s := s) (j := j) (by omega) (by simpa using hx)
    · omega
theorem hd_at : ∀ {hs : List Head} {s : ByteArray} {x : Head}, hs[hdN hs s]? = some x → Op.bytesLess x.1.toList s.toList = false
  | [], _, _, hx => by simp at hx
  | y :: hs, s, x, hx => by
    rw [hdN] at hx
    split at hx
    · exact hd_at (by simpa using hx)
    · rename_i hy
      simp only [List.getElem?_cons_zero, Option.some.injEq] at hx
      subst hx
      simpa using hy
theorem hd_more {hs : List Head} {s : ByteArray} {x : Head} (hx : hs[hdN hs s]? = some x) (h : hdHas hs s = false) : Op.bytesLess s.toList x.1.toList = true := by
  refine less_tri (hd_at hx) fun e => ?_
  rw [hdHas, hx] at h
  simp [e] at h
theorem headK_off {cs : List Commit} {hs : List Head} {s : ByteArray} (hr : headsRise cs.length [] hs = true) (hh : hdHas hs s = false) : headK hs s = none := by rw [headK_seek hr s, hh]; rfl
def insAt (hs : List Head) (i : Nat) (x : Head) (j : Nat) : List Head := if i < j then hs.take i ++ x :: (hs.drop i).take (j - i) else hs.take j
theorem insAt_low {hs : List Head} {i j : Nat} {x y : Head} (h : j < i) (hy : hs[j]? = some y) : insAt hs i x (j + 1) = insAt hs i x j ++ [y] := by
  obtain ⟨hj, rfl⟩ := List.getElem?_eq_some_iff.1 hy
  rw [insAt, insAt, if_neg (by omega), if_neg (by omega), List.take_succ_eq_append_getElem hj]
theorem insAt_at {hs : List Head} {i : Nat} {x y : Head} (hy : hs[i]? = some y) : insAt hs i x (i + 1) = (insAt hs i x i ++ [x]) ++ [y] := by
  obtain ⟨hj, rfl⟩ := List.getElem?_eq_some_iff.1 hy
  rw [insAt, insAt, if_pos (by omega), if_neg (by omega), show i + 1 - i = 1 by omega, List.append_assoc]
  congr 1
  rw [List.drop_eq_getElem_cons hj]
  rfl
theorem insAt_high {hs : List Head} {i j : Nat} {x y : Head} (h : i < j) (hy : hs[j]? = some y) : insAt hs i x (j + 1) = insAt hs i x j ++ [y] := by
  obtain ⟨hj, rfl⟩ := List.getElem?_eq_some_iff.1 hy
  rw [insAt, insAt, if_pos (by omega), if_pos (by omega), show j + 1 - i = (j - i) + 1 by omega, List.take_succ_eq_append_getElem (by simp; omega)]
  simp only [List.getElem_drop, List.append_assoc, List.cons_append]
  simp only [show i + (j - i) = j by omega]
theorem insAt_end {hs : List Head} {i : Nat} {x : Head} (h : i < hs.length) : insAt hs i x hs.length = hs.take i ++ x :: hs.drop i := by
  rw [insAt, if_pos h, List.take_of_length_le (l := hs.drop i) (by simp)]
theorem insAt_last {hs : List Head} {i : Nat} {x : Head} (h : i = hs.length) : insAt hs i x hs.length ++ [x] = hs.take i ++ x :: hs.drop i := by
  subst h
  rw [insAt, if_neg (by omega), List.drop_length, List.take_length]
theorem insAt_len {hs : List Head} {i j : Nat} {x : Head} (h : j ≤ hs.length) : (insAt hs i x j).length ≤ j + 1 := by
  rw [insAt]
  split <;> simp <;> omega
set_option maxHeartbeats 1000000 in
theorem refBranchOf (v : Value) (r : Repo) (s f : ByteArray) (S : Blk) (w : World) (hz : s.size ≤ maxLen) (h : Rp w S v r) :
    Calls Tryz.prog 34 #[v, .string s, .string f] w (Ret w (RefRet w.heap.size (jBranch r s f))) := by
  have hR := h
  obtain ⟨cs, hs⟩ := r
  obtain ⟨vc, vh, rfl, hc, hh⟩ := h
  obtain ⟨ac, cc, rfl, _, _, _⟩ := hc.shape
  obtain ⟨ah, ch, rfl, _, _, _⟩ := hh.shape
  simp only at hc hh
  have hX := boxAt w (.slice ac cs.length cc) (.slice ah hs.length ch)
  obtain ⟨wB, hwB⟩ : ∃ wB, wB = (w.alloc (.cells #[.slice ac cs.length cc, .slice ah hs.length ch] 33)).alloc (.cells #[.slice none 0 0, .slice none 0 0] 33) := ⟨_, rfl⟩
  rw [← hwB] at hX
  have HWB := keepBack hwB
  clear hwB
  have zB := hX.size
  have hRB := hR.call hX.low
  by_cases he : (headP (cs, hs) f).2 = 0
  · obtain ⟨he0, n, hn, hP, x, hx, hxs, hxn⟩ := head_there he
    have hrk := (repo_ok he0).2.2.2
    have hs4 := (repo_ok he0).2.1
    have hc14 := (dag_ok (repo_ok he0).1).1
    have hfew := repo_few he0
    simp only at hrk hs4 hc14 hn hfew
    have HJ := keepBack (jBranch_at (s := s) hP)
    clear hx hxs hxn x
    cases hnb : nameB s with
    | false =>
      have HP := keepBack (HJ.out.trans (branchN_name hnb))
      go_enter Tryz.func34, Tryz.ntmps34
      go_wp2_with fail
      rw [← HWB.out]
      refine (refHeadOf_of _ (cs, hs) f S wB hRB hP).mono ?_; rintro e w1 ⟨_, rfl, rfl, b1⟩
      go_wp2_with fail
      refine (refIsName_of s w1 hz hnb).mono ?_; rintro e w2 ⟨rfl, d2⟩
      have bB2 := b1.trans (d2.below.mono b1.size)
      obtain ⟨y0, y1, y2, y3, yf⟩ := hX.on bB2
      go_wp2_with fail
      refine bodyPost_ret (repoResults rfl _ _ _ _ _ _ _ rfl rfl (hX.fin bB2 _ _).1) rfl ?_
      exact ⟨_, rfl, RefRet.no HP.out, (hX.fin bB2 _ _).2⟩
    | true =>
      cases hhb : hdHas hs s with
      | true =>
        have HP := keepBack (HJ.out.trans (branchN_there hnb hhb))
        have hHK := keepBack (headK_at hrk hhb)
        go_enter Tryz.func34, Tryz.ntmps34
        go_wp2_with fail
        rw [← HWB.out]
        refine (refHeadOf_of _ (cs, hs) f S wB hRB hP).mono ?_; rintro e w1 ⟨_, rfl, rfl, b1⟩
        go_wp2_with fail
        refine (refIsName_of s w1 hz hnb).mono ?_; rintro e w2 ⟨rfl, d2⟩
        have bB2 := b1.trans (d2.below.mono b1.size)
        obtain ⟨y0, y1, y2, y3, yf⟩ := hX.on bB2
        go_wp2_with fail
        refine (refHeadAt_of (c := some (hdN hs s)) _ (cs, hs) s S w2 (hRB.call bB2) hHK.out).mono ?_; rintro e w3 ⟨_, rfl, rfl, b3⟩
        rw [show atI (some (hdN hs s)) = ((hdN hs s : Nat) : Int) from rfl]
        have bB3 := bB2.trans (b3.mono bB2.size)
        clear y0 y1 y2 y3 yf
        obtain ⟨y0, y1, y2, y3, yf⟩ := hX.on bB3
        go_wp2_with fail
        refine bodyPost_ret (repoResults rfl _ _ _ _ _ _ _ rfl rfl (hX.fin bB3 _ _).1) rfl ?_
        exact ⟨_, rfl, RefRet.no HP.out, (hX.fin bB3 _ _).2⟩
      | false =>
        have hHK := keepBack (headK_off hrk hhb)
        by_cases h4 : hs.length = 4
        · have HP := keepBack (HJ.out.trans (branchN_many hnb hhb h4))
          have h4i : ((hs.length : Nat) : Int) = 4 := by omega
          clear h4
          go_enter Tryz.func34, Tryz.ntmps34
          go_wp2_with fail
          rw [← HWB.out]
          refine (refHeadOf_of _ (cs, hs) f S wB hRB hP).mono ?_; rintro e w1 ⟨_, rfl, rfl, b1⟩
          go_wp2_with fail
          refine (refIsName_of s w1 hz hnb).mono ?_; rintro e w2 ⟨rfl, d2⟩
          have bB2 := b1.trans (d2.below.mono b1.size)
          obtain ⟨y0, y1, y2, y3, yf⟩ := hX.on bB2
          go_wp2_with fail
          refine (refHeadAt_of (c := none) _ (cs, hs) s S w2 (hRB.call bB2) hHK.out).mono ?_; rintro e w3 ⟨_, rfl, rfl, b3⟩
          rw [show atI none = -1 from rfl]
          have bB3 := bB2.trans (b3.mono bB2.size)
          clear y0 y1 y2 y3 yf
          obtain ⟨y0, y1, y2, y3, yf⟩ := hX.on bB3
          go_wp2_with fail
          refine bodyPost_ret (repoResults rfl _ _ _ _ _ _ _ rfl rfl (hX.fin bB3 _ _).1) rfl ?_
          exact ⟨_, rfl, RefRet.no HP.out, (hX.fin bB3 _ _).2⟩
        · have HP := keepBack (HJ.out.trans (branchN_ok hnb hhb (by exact h4)))
          have h4i : ((hs.length : Nat) : Int) ≠ 4 := by omega
          have HI0 : Hid (∀ x, hs[hdN hs s]? = some x → Op.bytesLess s.toList x.1.toList = true) := keepBack fun x hx => hd_more hx hhb
          have HI1 : Hid (∀ j x, j < hdN hs s → hs[j]? = some x → Op.bytesLess x.1.toList s.toList = true) := keepBack fun j x hj hx => hd_before hj hx
          have hil := hdN_le hs s
          have hnf := name_few hnb
          simp only at HP
          clear h4
          go_enter Tryz.func34, Tryz.ntmps34
          go_wp2_with fail
          rw [← HWB.out]
          refine (refHeadOf_of _ (cs, hs) f S wB hRB hP).mono ?_; rintro e w1 ⟨_, rfl, rfl, b1⟩
          go_wp2_with fail
          refine (refIsName_of s w1 hz hnb).mono ?_; rintro e w2 ⟨rfl, d2⟩
          have bB2 := b1.trans (d2.below.mono b1.size)
          obtain ⟨y0, y1, y2, y3, yf⟩ := hX.on bB2
          go_wp2_with fail
          refine (refHeadAt_of (c := none) _ (cs, hs) s S w2 (hRB.call bB2) hHK.out).mono ?_; rintro e w3 ⟨_, rfl, rfl, b3⟩
          rw [show atI none = -1 from rfl]
          have bB3 := bB2.trans (b3.mono bB2.size)
          clear y0 y1 y2 y3 yf
          obtain ⟨y0, y1, y2, y3, yf⟩ := hX.on bB3
          go_wp2_with fail
          refine (refOwn _ (cs, hs) S w3 (hRB.call bB3) (by show cs.length ≤ 1000; omega) (by show hs.length ≤ 1000; omega) hfew.2.2).mono ?_; rintro e w4 ⟨_, rfl, ⟨vc1, vh1, rfl, hO⟩, b4⟩
          have z3 := bB3.size
          have z4 := b4.size
          have hD : OutAt (fun k => w.heap.size ≤ k ∧ k ≠ w.heap.size + 1) (w4.alloc (.cells #[vc1, vh1] 33)) w3.heap.size w4.heap.size vc1 vh1 (cs, hs) := ⟨b4.size, heap_alloc_new _ _, (hO.coms.mono fun k hk hlt => ⟨⟨by omega, hk.2⟩, by omega⟩).alloc _, hO.heads.alloc _⟩
          have bB5 : Below wB.heap.size wB (w4.alloc (.cells #[vc1, vh1] 33)) := (bB3.trans (b4.mono z3)).alloc (by omega) _
          obtain ⟨av, cv, rfl, _, _⟩ := hO.coms.shape
          obtain ⟨au, cu, rfl, _, _⟩ := hO.heads.shape
          have d0 := hD.cell0
          have d1 := hD.cell1
          have df := hD.free 1
          have HO5 := keepBack ((hO.coms.mono (D := fun k => ((w.heap.size ≤ k ∧ k ≠ w.heap.size + 1) ∧ some k ≠ (Value.slice au hs.length cu).ownBlock) ∧ k ≠ w4.heap.size) fun k hk hlt => ⟨⟨by omega, hk.2⟩, by omega⟩).alloc (.cells #[.slice av cs.length cv, .slice none 0 0] 33))
          clear hO y0 y1 y2 y3 yf
          obtain ⟨y0, y1, y2, y3, yf⟩ := hX.on bB5
          generalize hdN hs s = i at *
          have hD5 : Own tCommit 59 (w4.alloc (.cells #[.slice av cs.length cv, .slice none 0 0] 33)) w3.heap.size (fun k => ((w.heap.size ≤ k ∧ k ≠ w.heap.size + 1) ∧ some k ≠ (Value.slice au hs.length cu).ownBlock) ∧ k ≠ w4.heap.size) (.slice av cs.length cv) cs := HO5.out
          have hrow5 : (w4.alloc (.cells #[.slice av cs.length cv, .slice none 0 0] 33)).heap[w4.heap.size]? = some (.cells #[.slice av cs.length cv, .slice none 0 0] 33) := heap_alloc_new _ _
          have hav : (Value.slice av cs.length cv).ownBlock ≠ some w4.heap.size := hD.apart.1
          have bB6 : Below wB.heap.size wB (w4.alloc (.cells #[.slice av cs.length cv, .slice none 0 0] 33)) := (bB3.trans (b4.mono z3)).alloc (by omega) _
          have z6 : (w4.alloc (.cells #[.slice av cs.length cv, .slice none 0 0] 33)).heap.size = w4.heap.size + 1 := by simp
          go_wp2_with fail
          clear d0 d1 df y0 y1 y2 y3 yf hD bB5
          generalize w4.alloc (.cells #[.slice av cs.length cv, .slice none 0 0] 33) = w5 at *
          have z6a : w5.heap.size ≤ w4.heap.size + 1 := by omega
          have z6b : w4.heap.size + 1 ≤ w5.heap.size := by omega
          clear z6
          go_loopw [11, 12] (fun dv iv wr => ∃ (j : Nat) (vl : Value), j ≤ hs.length ∧ iv = .int .i64 j ∧ dv = .bool (decide (i < j)) ∧ wr.heap[w4.heap.size]? = some (.cells #[.slice av cs.length cv, vl] 33) ∧ Own tHead 61 wr w5.heap.size (fun _ => False) vl (insAt hs i (s, (n : Int)) j) ∧ Step (fun k => k = w4.heap.size) w5 wr) (fun _ iv _ => hs.length - (intOf iv).toNat)
          case atStart => exact ⟨0, _, Nat.zero_le _, rfl, by simp, hrow5, by rw [insAt, if_neg (by omega)]; exact Own.nil, Step.refl _ _⟩
          case round =>
            obtain ⟨j, vl, hj, rfl, rfl, hrow, hol, hst⟩ := hrel
            have zr := hst.size
            have bBr : Below wB.heap.size wB wr := bB6.trans (hst.below (fun k hk => by omega) (by omega))
            obtain ⟨y0, y1, y2, y3, yf⟩ := hX.on bBr
            obtain ⟨al, cl, rfl, _, _⟩ := hol.shape
            have o1 : wr.cell? ⟨w4.heap.size, 1, none⟩ = some (.slice al (insAt hs i (s, (n : Int)) j).length cl) := by rw [World.cell?, hrow]; rfl
            have of := frozen_of_row wr w4.heap.size 1 _ _ hrow
            have HLN := insAt_len (i := i) (x := (s, (n : Int))) hj
            have FIN : ∀ (W0 W W1 : World) (u : Value) (M M' : List Head) (a7 : Option Addr) (c7 m7 : Nat), W0.heap[w4.heap.size]? = some (.cells #[.slice av cs.length cv, u] 33) → Own tHead 61 W0 w5.heap.size (fun _ => False) u M → Step (fun k => k = w4.heap.size) w5 W0 → Below W0.heap.size W0 W → Own tHead 61 W1 w5.heap.size (fun _ => False) (.slice a7 m7 c7) M' → W.grownBy W1 u.ownBlock →
                W1.cell? ⟨w4.heap.size, 1, none⟩ = some u ∧ W1.frozen? ⟨w4.heap.size, 1, none⟩ = false ∧
                (W1.setCell ⟨w4.heap.size, 1, none⟩ (.slice a7 m7 c7)).heap[w4.heap.size]? = some (.cells #[.slice av cs.length cv, .slice a7 m7 c7] 33) ∧ Own tHead 61 (W1.setCell ⟨w4.heap.size, 1, none⟩ (.slice a7 m7 c7)) w5.heap.size (fun _ => False) (.slice a7 m7 c7) M' ∧
                Step (fun k => k = w4.heap.size) w5 (W1.setCell ⟨w4.heap.size, 1, none⟩ (.slice a7 m7 c7)) := by
              intro W0 W W1 u M M' a7 c7 m7 hr0 ho0 hs0 hb ho7 hg7
              have hz0 := hs0.size
              have hrow7 : W1.heap[w4.heap.size]? = some (.cells #[.slice av cs.length cv, u] 33) := (hg7.block _ (by have := hb.size; omega) fun e => by have := (ho0.block _ e.symm).1; omega).trans ((hb.block _ (by omega)).trans hr0)
              refine ⟨by rw [World.cell?, hrow7]; rfl, frozen_of_row W1 _ 1 _ _ hrow7, heap_setCell_same W1 _ 1 _ _ _ hrow7, ?_, ?_⟩
              · exact ho7.keep fun k hk _ => heap_setCell_other _ _ _ _ (by
                  rcases hk with hk | hk
                  · exact hk.elim
                  · have := (ho7.block k hk).1; simp; omega)
              · exact ((hs0.trans (Step.of_below (X := fun _ => False) hb) fun _ _ h => h.elim).trans (Step.grown (X := fun k => w5.heap.size ≤ k) hg7 fun k hk => (ho0.block k hk).1) fun k hk h => by omega).on (Step.setCell _ _ rfl)
            by_cases hlt : j < hs.length
            · obtain ⟨x, hx⟩ : ∃ x, hs[j]? = some x := ⟨hs[j], List.getElem?_eq_getElem hlt⟩
              obtain ⟨b, o, hix, _, hbs, ok1, ok2, hc0, hc1⟩ := (hh.call (hX.low.trans (bBr.mono (by omega)))).idxHeadAt aHead j j x rfl hx
              have hjI : (j : Int) < hs.length := by omega
              have SRC : ∀ W : World, Src tHead (W.alloc (.cells #[.string x.1, .int .i64 x.2] 61)) (fun _ => False) (some ⟨W.heap.size, 0, none⟩) [x] := fun W => Src.one (E := tHead) (w := W) ⟨rfl, ok1, ok2⟩ _
              have bA : Below wr.heap.size wr (wr.alloc (.cells #[.string x.1, .int .i64 x.2] 61)).drew := ((Below.refl _ _).alloc (Nat.le_refl _) _).drew
              have oA := (bA.cell (p := ⟨w4.heap.size, 1, none⟩) (by simp; omega)).trans o1
              rcases Nat.lt_trichotomy j i with hji | hji | hji
              · have HN := keepBack (insAt_low (x := (s, (n : Int))) hji hx)
                have hl1 := HI1.out j x hji hx
                have hl2 := less_asymm hl1
                have hdd : decide (i < j) = false := by simp; omega
                have hdd' := keepBack (show (.bool false : Value) = .bool (decide (i < j + 1)) by simp; omega)
                rw [hdd]
                clear hji hdd
                generalize insAt hs i (s, (n : Int)) j = L at *
                go_wp2_with fail
                go_region_law (first
                  | (refine step_grow (D := fun _ => False) (m := [x]) rfl (.tmp 72) (.tmp 78) rfl aHead rfl (hol.call bA) rfl rfl (SRC wr) (fun h => by cases h) (fun q hq _ => hq.elim) (by simp; omega) (by simp; omega) ?_; rintro v7 w7 ho7 hg7; obtain ⟨a7, c7, hv7, _, _⟩ := ho7.shape; generalize (L ++ [x]).length = m7 at hv7; subst hv7; obtain ⟨f1, f2, f3, f4, f5⟩ := FIN wr _ w7 _ L (L ++ [x]) a7 c7 m7 hrow hol hst bA ho7 hg7)
                  | fail)
                all_goals
                  clear o1 oA of y0 y1 y2 y3 yf
                  go_wp2
                  go_roundw
                  case rel => exact ⟨j + 1, _, by omega, by go_num, hdd'.out, f3, by rw [HN.out]; exact f4, f5⟩
                  case measure => simp [intOf]; omega
              · have HN := keepBack (insAt_at (x := (s, (n : Int))) (hji ▸ hx : hs[i]? = some x))
                have hl1 := HI0.out x (hji ▸ hx)
                have hl2 := less_asymm hl1
                have hl3 : (x.1.toList == s.toList) = false := by
                  cases hq : x.1.toList == s.toList with
                  | false => rfl
                  | true => rw [eq_of_beq hq, less_irrefl] at hl1; cases hl1
                have hdd : decide (i < j) = false := by simp; omega
                have hdd' := keepBack (show (.bool true : Value) = .bool (decide (i < j + 1)) by simp; omega)
                rw [hdd]
                subst hji
                clear hdd
                generalize insAt hs j (s, (n : Int)) j = L at *
                have bI : Below wr.heap.size wr (wr.alloc (.cells #[.string s, .int .i64 n] 61)) := (Below.refl _ _).alloc (Nat.le_refl _) _
                have SRI : Src tHead (wr.alloc (.cells #[.string s, .int .i64 n] 61)) (fun _ => False) (some ⟨wr.heap.size, 0, none⟩) [(s, (n : Int))] := Src.one (E := tHead) (w := wr) ⟨rfl, by unfold i64ok; simp only; omega, hz⟩ _
                go_wp2_with (at_builtin; refine wpList_grow rfl (.tmp 64) (.tmp 68) rfl aHead rfl (hol.call bI) rfl rfl SRI (fun h => by cases h) (fun q hq _ => hq.elim) (by simp; omega) (by simp; omega) ?_)
                intro v6 w6 ho6 hg6
                obtain ⟨a6, c6, hv6, _, _⟩ := ho6.shape
                generalize hM : L ++ [(s, (n : Int))] = M at *
                subst hv6
                obtain ⟨f1, f2, f3, f4, f5⟩ := FIN wr _ w6 _ L M a6 c6 M.length hrow hol hst bI ho6 hg6
                clear o1 oA of y0 y1 y2 y3 yf hix hc0 hc1 SRC bA
                have hz6 := f5.size
                have bBq : Below wB.heap.size wB (w6.setCell ⟨w4.heap.size, 1, none⟩ (.slice a6 M.length c6)) := bB6.trans (f5.below (fun k hk => by omega) (by omega))
                go_wp2_with fail
                clear f1 f2
                generalize w6.setCell ⟨w4.heap.size, 1, none⟩ (.slice a6 M.length c6) = wq at *
                obtain ⟨y0, y1, y2, y3, yf⟩ := hX.on bBq
                have o1 : wq.cell? ⟨w4.heap.size, 1, none⟩ = some (.slice a6 M.length c6) := by rw [World.cell?, f3]; rfl
                obtain ⟨b, o, hix, _, hbs, ok1, ok2, hc0, hc1⟩ := (hh.call (hX.low.trans (bBq.mono (by omega)))).idxHeadAt aHead j j x rfl hx
                have SRC : ∀ W : World, Src tHead (W.alloc (.cells #[.string x.1, .int .i64 x.2] 61)) (fun _ => False) (some ⟨W.heap.size, 0, none⟩) [x] := fun W => Src.one (E := tHead) (w := W) ⟨rfl, ok1, ok2⟩ _
                have bA : Below wq.heap.size wq (wq.alloc (.cells #[.string x.1, .int .i64 x.2] 61)).drew := ((Below.refl _ _).alloc (Nat.le_refl _) _).drew
                have oA := (bA.cell (p := ⟨w4.heap.size, 1, none⟩) (by simp; omega)).trans o1
                have HLM : M.length ≤ j + 2 := by rw [← hM]; simp; omega
                go_wp2_with fail
                go_region_law (first
                  | (refine step_grow (D := fun _ => False) (m := [x]) rfl (.tmp 72) (.tmp 78) rfl aHead rfl (f4.call bA) rfl rfl (SRC wq) (fun h => by cases h) (fun q hq _ => hq.elim) (by simp; omega) (by simp; omega) ?_; rintro v7 w7 ho7 hg7; obtain ⟨a7, c7, hv7, _, _⟩ := ho7.shape; generalize (M ++ [x]).length = m7 at hv7; subst hv7; obtain ⟨f1', f2', f3', f4', f5'⟩ := FIN wq _ w7 _ M (M ++ [x]) a7 c7 m7 f3 f4 f5 bA ho7 hg7)
                  | fail)
                all_goals
                  clear o1 oA y0 y1 y2 y3 yf
                  go_wp2
                  go_roundw
                  case rel => exact ⟨j + 1, _, by omega, by go_num, hdd'.out, f3', by rw [HN.out]; exact f4', f5'⟩
                  case measure => simp [intOf]; omega
              · have HN := keepBack (insAt_high (x := (s, (n : Int))) hji hx)
                have hdd : decide (i < j) = true := by simp; omega
                have hdd' := keepBack (show (.bool true : Value) = .bool (decide (i < j + 1)) by simp; omega)
                rw [hdd]
                clear hji hdd
                generalize insAt hs i (s, (n : Int)) j = L at *
                go_wp2_with fail
                go_region_law (first
                  | (refine step_grow (D := fun _ => False) (m := [x]) rfl (.tmp 72) (.tmp 78) rfl aHead rfl (hol.call bA) rfl rfl (SRC wr) (fun h => by cases h) (fun q hq _ => hq.elim) (by simp; omega) (by simp; omega) ?_; rintro v7 w7 ho7 hg7; obtain ⟨a7, c7, hv7, _, _⟩ := ho7.shape; generalize (L ++ [x]).length = m7 at hv7; subst hv7; obtain ⟨f1, f2, f3, f4, f5⟩ := FIN wr _ w7 _ L (L ++ [x]) a7 c7 m7 hrow hol hst bA ho7 hg7)
                  | fail)
                all_goals
                  clear o1 oA of y0 y1 y2 y3 yf
                  go_wp2
                  go_roundw
                  case rel => exact ⟨j + 1, _, by omega, by go_num, hdd'.out, f3, by rw [HN.out]; exact f4, f5⟩
                  case measure => simp [intOf]; omega
            · have hje : j = hs.length := by omega
              have END : ∀ (W : World) (vl : Value) (L : List Head), Own tHead 61 W w5.heap.size (fun _ => False) vl L → Step (fun k => k = w4.heap.size) w5 W → Rp W (fun k => w.heap.size ≤ k ∧ k ≠ w.heap.size + 1) (.agg #[.slice av cs.length cv, vl]) (cs, L) := fun W vl L hoL hsW => by
                refine ⟨_, _, rfl, (hD5.grownTo hsW fun k hk => ?_).sl (fun _ hk => hk.1.1) (fun q hq => by omega), hoL.sl (fun _ hk => hk.elim) (fun q hq => by omega)⟩
                rcases hk with hk | hk
                · exact hk.1.2
                · intro e; exact hav (by rw [hk, e])
              subst hje
              have hjI : ¬ ((hs.length : Int) < hs.length) := by omega
              have o0 : wr.cell? ⟨w4.heap.size, 0, none⟩ = some (.slice av cs.length cv) := by rw [World.cell?, hrow]; rfl
              by_cases hil' : i < hs.length
              · have HE := keepBack (insAt_end (x := (s, (n : Int))) hil')
                have hdd : decide (i < hs.length) = true := by simp; omega
                rw [hdd]
                clear hdd hil'
                have hRE := END wr _ _ hol hst
                generalize insAt hs i (s, (n : Int)) hs.length = L at *
                go_wp2_with fail
                have hfin := hX.fin bBr (.slice av cs.length cv) (.slice al L.length cl)
                refine bodyPost_ret (repoResults rfl _ _ _ _ _ _ _ rfl rfl hfin.1) rfl ?_
                refine ⟨_, rfl, ?_, hfin.2⟩
                rw [HP.out, ← HE.out]
                exact ⟨_, rfl, rpAny hRE⟩
              · have HE := keepBack (insAt_last (x := (s, (n : Int))) (show i = hs.length by omega))
                have hdd : decide (i < hs.length) = false := by simp; omega
                rw [hdd]
                clear hdd hil'
                generalize insAt hs i (s, (n : Int)) hs.length = L at *
                have bI : Below wr.heap.size wr (wr.alloc (.cells #[.string s, .int .i64 n] 61)) := (Below.refl _ _).alloc (Nat.le_refl _) _
                have SRI : Src tHead (wr.alloc (.cells #[.string s, .int .i64 n] 61)) (fun _ => False) (some ⟨wr.heap.size, 0, none⟩) [(s, (n : Int))] := Src.one (E := tHead) (w := wr) ⟨rfl, by unfold i64ok; simp only; omega, hz⟩ _
                go_wp2_with (at_builtin; refine wpList_grow rfl (.tmp 84) (.tmp 88) rfl aHead rfl (hol.call bI) rfl rfl SRI (fun h => by cases h) (fun q hq _ => hq.elim) (by simp; omega) (by simp; omega) ?_)
                intro v6 w6 ho6 hg6
                obtain ⟨a6, c6, hv6, _, _⟩ := ho6.shape
                rw [HE.out] at ho6
                generalize (L ++ [(s, (n : Int))]).length = m6 at hv6
                subst hv6
                obtain ⟨f1, f2, f3, f4, f5⟩ := FIN wr _ w6 _ L _ a6 c6 m6 hrow hol hst bI ho6 hg6
                have hRE := END _ _ _ f4 f5
                have hz6 := f5.size
                have bBq : Below wB.heap.size wB (w6.setCell ⟨w4.heap.size, 1, none⟩ (.slice a6 m6 c6)) := bB6.trans (f5.below (fun k hk => by omega) (by omega))
                have e0 : (w6.setCell ⟨w4.heap.size, 1, none⟩ (.slice a6 m6 c6)).cell? ⟨w4.heap.size, 0, none⟩ = some (.slice av cs.length cv) := by rw [World.cell?, f3]; rfl
                have e1 : (w6.setCell ⟨w4.heap.size, 1, none⟩ (.slice a6 m6 c6)).cell? ⟨w4.heap.size, 1, none⟩ = some (.slice a6 m6 c6) := by rw [World.cell?, f3]; rfl
                have hfin := hX.fin bBq (.slice av cs.length cv) (.slice a6 m6 c6)
                clear o0 o1 of y0 y1 y2 y3 yf
                obtain ⟨y0, y1, y2, y3, yf⟩ := hX.on bBq
                go_wp2_with fail
                refine bodyPost_ret (repoResults rfl _ _ _ _ _ _ _ rfl rfl hfin.1) rfl ?_
                refine ⟨_, rfl, ?_, hfin.2⟩
                rw [HP.out]
                exact ⟨_, rfl, rpAny hRE⟩
  · have HP := keepBack (jBranch_bad (s := s) he)
    have hq : ((headP (cs, hs) f).2 != 0) = true := by simp [he]
    go_enter Tryz.func34, Tryz.ntmps34
    go_wp2_with fail
    rw [← HWB.out]
    refine (refHeadOf _ (cs, hs) f S wB hRB).mono ?_; rintro e w1 ⟨_, rfl, rfl, b1⟩
    obtain ⟨y0, y1, y2, y3, yf⟩ := hX.on b1
    go_wp2_with fail
    refine bodyPost_ret (repoResults rfl _ _ _ _ _ _ _ rfl rfl (hX.fin b1 _ _).1) rfl ?_
    exact ⟨_, rfl, RefRet.no HP.out, (hX.fin b1 _ _).2⟩
end Go.Pch
end
