/- The walks of the laws on chunks. The walks of package tree: what tells of chunks. The walks of what the document says of trees. The walk of the document's build. The walk of the document's BuildOf. -/
import Derived.Test.YtjjkdpjjaijmbaaGreatDoorDg32
import Derived.Deep.RegionHeld3
import Derived.Test.YtjjkdpjjaijmbaaGreatDoorDg9
import Derived.Test.YtjjkdpjjaijmbaaGreatDoorDg13
section
namespace Go.Pch
open Go.RowKit Go.Proofs
end Go.Pch
end

section
namespace Go.Pch
open Go.RowKit Go.Proofs
theorem tell_at {c : List Row} (h : 0 < c.length) : tell c = (c[c.length - 1].1, sumL c) := by
  rw [tell, List.getLast?_eq_getElem?, List.getElem?_eq_getElem (by omega)]; rfl
theorem World.size_lt_allocT (w : World) (o : Obj) : w.heap.size < (w.alloc o).heap.size := by simp
set_option maxRecDepth 100000 in
set_option maxHeartbeats 1000000 in
theorem chunkTold (v : Value) (X : List (List Row)) (S : Blk) (w : World) (h : Sl tRow.slice w S v X) (hX : ∀ (i : Nat) (c : List Row), X[i]? = some c → 0 < c.length ∧ fineB c = true) (hl : X.length ≤ 1000000) :
    Calls Tryz.prog 111 #[v] w (Ret w fun r w' => Sl tRow w' (fun k => w.heap.size ≤ k) r (X.map tell)) := by
  have hv := h.old
  obtain ⟨ao, cap, rfl, hcap, hmax, hnil⟩ := h.shape
  unfold maxLen at hmax
  have HX := keepBack hX
  clear hX
  go_enter Tryz.func111, Tryz.ntmps111
  go_wp2
  go_loopw [3, 8] (fun out i wr => ∃ (j : Nat), j ≤ X.length ∧ i = .int .i64 j ∧ Below w.heap.size w wr ∧ Own tRow 86 wr w.heap.size (fun _ => False) out ((X.take j).map tell)) (fun _ i _ => X.length - (intOf i).toNat)
  case atStart => exact ⟨0, Nat.zero_le _, rfl, Below.refl _ _, .nil⟩
  case round =>
    obtain ⟨j, hj, rfl, hb, ho⟩ := hrel
    have hs := hb.size
    by_cases hlt : j < X.length
    · obtain ⟨ck, hck⟩ : ∃ ck, X[j]? = some ck := ⟨X[j], List.getElem?_eq_getElem hlt⟩
      obtain ⟨z1, z2⟩ := HX.out j ck hck
      obtain ⟨b, o, a2, c2, hix, _, hbs, hsk0, hc2, hcm2, hc00⟩ := hv.idxSlAt aLev j j ck ck.length rfl hck rfl
      obtain ⟨b', o', hixr, hb', _, ok1, ok2, hr00, hr1⟩ := hsk0.idxRow aRow ((ck.length : Int) - 1) (ck.length - 1) (by omega) (by omega)
      have hc0 := (hb.cell (p := ⟨b, o, none⟩) hbs).trans hc00
      have HT := keepBack (tell_at z1)
      generalize ck[ck.length - 1] = r at *
      have hlen : ((X.take j).map tell).length = j := by simp; omega
      have hnext : (X.take (j + 1)).map tell = (X.take j).map tell ++ [tell ck] := by
        rw [List.take_add_one, hck, List.map_append]; rfl
      have HN := keepBack hnext
      generalize (X.take j).map tell = G at ho hlen HN
      have HL := keepBack (show G.length ≤ j by omega)
      have hsb := fold_bounds ck
      clear hck hlen hnext
      have hwr : IntKind.i64.wrap ((ck.length : Int) - 1) = (ck.length : Int) - 1 := by rw [IntKind.wrap_i64]; unfold maxLen at hcm2; omega
      obtain ⟨ao3, c3, rfl, _, _⟩ := ho.shape
      go_wp2_with fail
      have KS : ∀ W, Below w.heap.size w W → Below w.heap.size w W ∧ W.cell? ⟨b', o', none⟩ = some (.int .i64 r.1) := fun W hW => ⟨hW, (hW.cell (p := ⟨b', o', none⟩) hb').trans hr00⟩
      have hone : ∀ W, tRow.rd W (fun _ => False) [.int .i64 r.1, .int .i64 (sumL ck)] (r.1, sumL ck) := fun W => tRow_mk _ _ _ _ ok1 (ok_small (by unfold sumL; omega))
      have HB : G.length + [(r.1, sumL ck)].length ≤ 1000000000000 := by have := HL.out; simp; omega
      go_region_held3 (fun w' => Below w.heap.size w w' ∧ w'.cell? ⟨b', o', none⟩ = some (.int .i64 r.1))
        (first
          | exact KS _ hb.drew
          | exact KS _ hb
          | exact KS _ (by assumption)
          | exact KS _ (Below.alloc (by assumption) (by omega) _)
          | fail)
        (first
          | (go_at_call 109; refine (chunkOf _ ck _ wr.drew (hsk0.below hb.drew) z2).mono ?_; rintro e w1 ⟨_, rfl, rfl, b1⟩; have ho1 := (ho.keep (w' := wr.drew) fun _ _ _ => rfl).call b1; have hb1 : Below w.heap.size w w1 := hb.drew.trans (b1.mono hs); have hs1 := hb1.size)
          | (refine step_grow rfl (.tmp 12) (.tmp 23) rfl aRow rfl (ho1.alloc _) rfl rfl (Src.one (hone _) _) nofun (fun _ h => h.elim) HB (Nat.le_trans hs1 (Nat.le_of_lt (World.size_lt_allocT _ _))) ?_; intro v2 w2 ho2 hg2; have hb2 : Below w.heap.size w w2 := (hb1.alloc hs1 _).grown hg2 (Nat.le_trans hs1 (Nat.le_of_lt (World.size_lt_allocT _ _))) (fun g hg => (ho1.block g hg).1)))
      go_wp2
      go_roundw
      case rel => exact ⟨j + 1, by omega, by go_num, hb2, by rw [HN.out, HT.out]; exact ho2⟩
      case measure => simp [intOf]; omega
    · obtain rfl : j = X.length := by omega
      go_wp2
      go_ret
      rw [List.take_length] at ho
      exact ⟨_, rfl, ho.sl (fun _ h => h.elim) (fun _ h => h), hb⟩
end Go.Pch
end

section
namespace Go.Pch
open Go.RowKit Go.Proofs
theorem aTree : At Tryz.prog tRow.slice.slice 88 122 := At.mk' Tryz.underlying88 (z := .slice none 0 0) (size := 1) (bytes := 24) (by kernel_rfl) rfl rfl (by decide)
end Go.Pch
end

section
namespace Go.Pch
open Go.RowKit Go.Proofs
theorem chunk_of_fine {l : List Row} (hf : fineB l = true) (n : Int) : ∀ (i : Nat) (c : List Row), (chunks n l)[i]? = some c → 0 < c.length ∧ fineB c = true := fun i c hc => by
  refine ⟨(chunks_sizes i c hc).1, ?_⟩
  rw [fineB, List.all_eq_true] at hf ⊢
  exact fun r hr => hf r ((chunks_mem c (List.mem_of_getElem? hc)).2 r hr)
set_option maxRecDepth 100000 in
set_option maxHeartbeats 1000000 in
theorem refBuild (v : Value) (l : List Row) (S : Blk) (w : World) (h : Sl tRow w S v l) (hok : rowsErr l = 0) :
    Calls Tryz.prog 41 #[v] w (Ret w fun r w' => Sl tRow.slice.slice w' (fun k => w.heap.size ≤ k) r (treeL l)) := by
  have hv := h
  obtain ⟨ao, cap, rfl, hcap, hmax, hnil⟩ := h.shape
  unfold maxLen at hmax
  go_enter Tryz.func41, Tryz.ntmps41
  go_wp2_with fail
  go_loopw [0, 3] (fun lc out wr => ∃ (cur : List Row) (done : List (List (List Row))), Below w.heap.size w wr ∧ Own tRow.slice.slice 122 wr w.heap.size (fun k => w.heap.size ≤ k) out done ∧ Sl tRow wr (fun _ => True) lc cur ∧ Hid (rowsErr cur = 0) ∧ done.length + cur.length ≤ 50 ∧ Hid (treeL l = done ++ treeN done.length cur)) (fun lc _ _ => match lc with | .slice _ n _ => n | _ => 0)
  case atStart => exact ⟨l, [], Below.refl _ _, .nil, hv.any, hok, by have := (ok_rise hok).1; simp; omega, rfl⟩
  case round =>
    obtain ⟨cur, done, hb, ho, hc, hcok, hdl, ht⟩ := hrel
    have hs := hb.size
    have h40 := (ok_rise hcok.out).1
    obtain ⟨ac, cc, rfl, _, _, _⟩ := hc.shape
    obtain ⟨ad, cd, rfl, _, _⟩ := ho.shape
    by_cases hcur : cur = []
    · subst hcur
      go_wp2
      go_ret
      exact ⟨_, rfl, by rw [ht.out, treeN_nil, List.append_nil]; exact ho.sl (fun _ h => h) (fun _ h => h), hb⟩
    · have hcl : 0 < cur.length := List.length_pos_iff.2 hcur
      go_wp2_with fail
      refine (refCut _ cur (done.length : Int) _ wr hc (by omega)).mono ?_; rintro e w1 ⟨vl, rfl, hvl, b1⟩
      have s1 := b1.size
      have HT := keepBack (fun h => treeN_top (n := (done.length : Int)) hcur h)
      have HM := keepBack (fun h => treeN_more (n := (done.length : Int)) hcur h)
      have hXh := chunks_half (done.length : Int) cur
      have hXp := chunks_pos (n := (done.length : Int)) hcur
      have HXF := keepBack (chunk_of_fine (ok_fine hcok.out) (done.length : Int))
      have HTO := keepBack (told_ok hcok.out (done.length : Int))
      generalize chunks (done.length : Int) cur = X at *
      obtain ⟨al, cl, rfl, _, _, _⟩ := hvl.shape
      have hob := ho.block
      have ho1 := ho.call b1
      go_wp2_with (at_builtin; refine wpList_grow rfl (.tmp 13) (.tmp 15) rfl aTree rfl (ho1.alloc _) rfl (by simp) (Src.one (cs := [_]) hvl _) (by simp) ?_ (by simp; omega) (by simp; omega) ?_)
      · intro q hq _
        refine ⟨by omega, fun e => ?_⟩
        have := hob q e.symm
        omega
      intro v2 w2 ho2 hg2
      have hb2 : Below w.heap.size w w2 := ((hb.trans (b1.mono hs)).alloc (by omega) _).grown hg2 (by simp; omega) (fun g hg => (hob g hg).1)
      by_cases h1 : X.length = 1
      · have HT1 := keepBack (HT.out h1)
        have hq : ((X.length : Int) == 1) = true := by simp [h1]
        clear h1
        go_wp2
        go_ret
        exact ⟨_, rfl, by rw [ht.out, HT1.out]; exact ho2.sl (fun _ h => h) (fun _ h => h), hb2⟩
      · have HM1 := keepBack (HM.out h1)
        have hq : ((X.length : Int) == 1) = false := by simp; omega
        have hvl2 : Sl tRow.slice w2 (fun k => k < w2.heap.size) (.slice al X.length cl) X := ((hvl.call ((Below.refl _ _).alloc (Nat.le_refl _) _)).keep (w' := w2) fun k hk hlt => hg2.block k hlt (by intro e; have := hob k e.symm; omega)).old
        have hs2 := hb2.size
        have hX50 : X.length ≤ 50 := by omega
        go_wp2_with fail
        go_loopw [0, 5] (fun lc i wr' => ∃ (j : Nat), j ≤ X.length ∧ i = .int .i64 j ∧ Below w2.heap.size w2 wr' ∧ Own tRow 86 wr' w2.heap.size (fun _ => False) lc ((X.take j).map tell)) (fun _ i _ => X.length - (intOf i).toNat)
        case atStart => exact ⟨0, Nat.zero_le _, rfl, Below.refl _ _, .nil⟩
        case round =>
          obtain ⟨j, hj, rfl, hb3, ho3⟩ := hrel
          have hs3 := hb3.size
          by_cases hlt : j < X.length
          · obtain ⟨ck, hck⟩ : ∃ ck, X[j]? = some ck := ⟨X[j], List.getElem?_eq_getElem hlt⟩
            obtain ⟨z1, z2⟩ := HXF.out j ck hck
            obtain ⟨b, o, a2, c2, hix, _, hbs, hsk0, hc2, hcm2, hc00⟩ := hvl2.idxSlAt aLev j j ck ck.length rfl hck rfl
            obtain ⟨b', o', hixr, hb', _, ok1, ok2, hr00, hr1⟩ := hsk0.idxRow aRow ((ck.length : Int) - 1) (ck.length - 1) (by omega) (by omega)
            have hcc := (hb3.cell (p := ⟨b, o, none⟩) hbs).trans hc00
            have HTE := keepBack (tell_at z1)
            generalize ck[ck.length - 1] = r at *
            have hlen : ((X.take j).map tell).length = j := by simp; omega
            have hnext : (X.take (j + 1)).map tell = (X.take j).map tell ++ [tell ck] := by
              rw [List.take_add_one, hck, List.map_append]; rfl
            have HN := keepBack hnext
            generalize (X.take j).map tell = G at ho3 hlen HN
            have HL := keepBack (show G.length ≤ j by omega)
            have hsb := fold_bounds ck
            clear hck hlen hnext
            have hwr : IntKind.i64.wrap ((ck.length : Int) - 1) = (ck.length : Int) - 1 := by rw [IntKind.wrap_i64]; unfold maxLen at hcm2; omega
            obtain ⟨ao3, c3, rfl, _, _⟩ := ho3.shape
            go_wp2_with fail
            have KS : ∀ W, Below w2.heap.size w2 W → Below w2.heap.size w2 W ∧ W.cell? ⟨b', o', none⟩ = some (.int .i64 r.1) ∧ W.cell? ⟨b, o, none⟩ = some (.slice a2 ck.length c2) := fun W hW => ⟨hW, (hW.cell (p := ⟨b', o', none⟩) hb').trans hr00, (hW.cell (p := ⟨b, o, none⟩) hbs).trans hc00⟩
            have hone : ∀ W, tRow.rd W (fun _ => False) [.int .i64 r.1, .int .i64 (sumL ck)] (r.1, sumL ck) := fun W => tRow_mk _ _ _ _ ok1 (ok_small (by unfold sumL; omega))
            have HB : G.length + [(r.1, sumL ck)].length ≤ 1000000000000 := by have := HL.out; simp; omega
            go_region_held3 (fun w' => Below w2.heap.size w2 w' ∧ w'.cell? ⟨b', o', none⟩ = some (.int .i64 r.1) ∧ w'.cell? ⟨b, o, none⟩ = some (.slice a2 ck.length c2))
              (first
                | exact KS _ hb3.drew
                | exact KS _ hb3
                | exact KS _ (by assumption)
                | exact KS _ (Below.alloc (by assumption) (by omega) _)
                | fail)
              (first
                | (go_at_call 87; refine (refSum _ ck _ wr.drew (hsk0.below hb3.drew) z2).mono ?_; rintro e w4 ⟨rfl, d4⟩; have ho4 := (ho3.keep (w' := wr.drew) fun _ _ _ => rfl).call d4.below; have hb4 : Below w2.heap.size w2 w4 := hb3.drew.trans (d4.below.mono hs3); have hs4 := hb4.size)
                | (refine step_grow rfl (.tmp 26) (.tmp 46) rfl aRow rfl (ho4.alloc _) rfl rfl (Src.one (hone _) _) nofun (fun _ h => h.elim) HB (Nat.le_trans hs4 (Nat.le_of_lt (World.size_lt_allocT _ _))) ?_; intro v5 w5 ho5 hg5; have hb5 : Below w2.heap.size w2 w5 := (hb4.alloc hs4 _).grown hg5 (Nat.le_trans hs4 (Nat.le_of_lt (World.size_lt_allocT _ _))) (fun g hg => (ho4.block g hg).1)))
            go_wp2
            go_roundw
            case rel => exact ⟨j + 1, by omega, by go_num, hb5, by rw [HN.out, HTE.out]; exact ho5⟩
            case measure => simp [intOf]; omega
          · obtain rfl : j = X.length := by omega
            rw [List.take_length] at ho3
            obtain ⟨al3, cl3, rfl, _, _⟩ := ho3.shape
            go_wp2
            go_roundw
            case rel => exact ⟨X.map tell, done ++ [X], hb2.trans (hb3.mono hs2), ho2.call hb3, ho3.sl (fun _ h => h.elim) (fun _ _ => trivial), HTO.out, by simp; omega, keepBack (by rw [ht.out, HM1.out, List.length_append, List.length_singleton, Int.natCast_add, Int.natCast_one, List.append_assoc]; rfl)⟩
            case measure => simp; omega
end Go.Pch
end

section
namespace Go.Pch
open Go.RowKit Go.Proofs
end Go.Pch
end
