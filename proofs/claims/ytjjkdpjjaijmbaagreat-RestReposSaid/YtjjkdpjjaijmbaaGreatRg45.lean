/- The walks of the laws on chunks. Plain words of chapter 3 (trees) on lists; no program is named here. The walks of package tree: what tells of chunks. The walks of what the document says of trees. The walk of the document's build. The walk of the document's BuildOf. -/
import Derived.Test.YtjjkdpjjaijmbaaGreatRg44
import Derived.Deep.RegionHeld3
import Derived.Test.YtjjkdpjjaijmbaaGreatRg1
import Derived.Test.YtjjkdpjjaijmbaaGreatRg8
section
namespace Go.Pch
open Go.RowKit Go.Proofs


/-- A struct's two cells, and what lay below, over a call. -/
theorem s3_call {W wx w3 : World} {k : Nat} {a b : Value} (h0 : wx.cell? ⟨k, 0, none⟩ = some a) (h1 : wx.cell? ⟨k, 1, none⟩ = some b) (h2 : Below W.heap.size W wx) (hb : Below wx.heap.size wx w3) :
    w3.cell? ⟨k, 0, none⟩ = some a ∧ w3.cell? ⟨k, 1, none⟩ = some b ∧ Below W.heap.size W w3 :=
  ⟨(hb.cell (p := ⟨k, 0, none⟩) (World.block_lt_of_cell? _ _ h0)).trans h0, (hb.cell (p := ⟨k, 1, none⟩) (World.block_lt_of_cell? _ _ h1)).trans h1, h2.trans (hb.mono h2.size)⟩



end Go.Pch
end

section
namespace Go.Pch

/-- A chunk's row in the level above. -/
def tell (c : List Row) : Row := ((c.getLast?.getD (0, 0)).1, sumL c)
/-- The levels, from level n on (f: fuel). -/
def treeF : Nat → Int → List Row → List (List (List Row))
  | 0, _, _ => []
  | f + 1, n, l => if l = [] then [] else if (chunks n l).length = 1 then [chunks n l] else chunks n l :: treeF f (n + 1) ((chunks n l).map tell)
/-- C1: the tree of right rows. -/
def treeL (l : List Row) : List (List (List Row)) := treeF l.length 0 l

theorem chunks_pos {n : Int} {l : List Row} (h : l ≠ []) : 0 < (chunks n l).length := by
  rw [chunks_cons n h]; simp
theorem half_of : ∀ (X : List (List Row)), (∀ (i : Nat) (c : List Row), X[i]? = some c → 0 < c.length ∧ (i + 1 < X.length → 2 ≤ c.length)) → 2 * X.length ≤ X.flatten.length + 1
  | [], _ => by simp
  | [c], h => by have := (h 0 c rfl).1; simp; omega
  | c :: d :: X, h => by
    have h0 := (h 0 c rfl).2 (by simp)
    have ih := half_of (d :: X) fun i e he => by
      have := h (i + 1) e (by simpa using he)
      exact ⟨this.1, fun hi => this.2 (by simp at hi ⊢; omega)⟩
    rw [List.flatten_cons, List.length_append, List.length_cons]
    omega
theorem chunks_half (n : Int) (l : List Row) : 2 * (chunks n l).length ≤ l.length + 1 := by
  have := half_of (chunks n l) fun i c hc => by have := chunks_sizes i c hc; exact ⟨this.1, this.2.2⟩
  rwa [chunks_flatten] at this

theorem treeF_more : ∀ (f g : Nat) (n : Int) (l : List Row), l.length ≤ f → l.length ≤ g → treeF f n l = treeF g n l
  | 0, 0, _, _, _, _ => rfl
  | 0, g + 1, n, l, h, _ => by
    have : l = [] := List.eq_nil_of_length_eq_zero (by omega)
    simp [treeF, this]
  | f + 1, 0, n, l, _, h => by
    have : l = [] := List.eq_nil_of_length_eq_zero (by omega)
    simp [treeF, this]
  | f + 1, g + 1, n, l, h1, h2 => by
    rw [treeF, treeF]
    split
    · rfl
    · rename_i hl
      split
      · rfl
      · rename_i h3
        have := chunks_half n l
        have := chunks_pos (n := n) hl
        rw [treeF_more f g (n + 1) ((chunks n l).map tell) (by rw [List.length_map]; omega) (by rw [List.length_map]; omega)]
/-- From a level on. -/
def treeN (n : Int) (l : List Row) : List (List (List Row)) := treeF l.length n l
theorem treeN_nil (n : Int) : treeN n [] = [] := rfl
theorem treeN_top {n : Int} {l : List Row} (h : l ≠ []) (h1 : (chunks n l).length = 1) : treeN n l = [chunks n l] := by
  have : 0 < l.length := by cases l <;> simp_all
  obtain ⟨k, hk⟩ : ∃ k, l.length = k + 1 := ⟨l.length - 1, by omega⟩
  rw [treeN, hk, treeF, if_neg h, if_pos h1]
theorem treeN_more {n : Int} {l : List Row} (h : l ≠ []) (h1 : (chunks n l).length ≠ 1) : treeN n l = chunks n l :: treeN (n + 1) ((chunks n l).map tell) := by
  have : 0 < l.length := by cases l <;> simp_all
  obtain ⟨k, hk⟩ : ∃ k, l.length = k + 1 := ⟨l.length - 1, by omega⟩
  have h2 := chunks_half n l
  have h3 := chunks_pos (n := n) h
  rw [treeN, hk, treeF, if_neg h, if_neg h1, treeN]
  rw [treeF_more k _ _ _ (by rw [List.length_map]; omega) (Nat.le_refl _)]

theorem rise_append {m : Int} : ∀ {c r : List Row}, c ≠ [] → riseB m (c ++ r) = true → m < (c.getLast?.getD (0, 0)).1 ∧ (c.getLast?.getD (0, 0)).1 ≤ 99 ∧ riseB (c.getLast?.getD (0, 0)).1 r = true
  | [], _, h, _ => absurd rfl h
  | [x], r, _, h => by
    rw [List.singleton_append, riseB_cons] at h
    simpa using ⟨h.1.1, h.1.2.1, h.2⟩
  | x :: y :: c, r, _, h => by
    rw [List.cons_append, riseB_cons] at h
    have := rise_append (c := y :: c) (r := r) (by simp) h.2
    rw [List.getLast?_cons_cons]
    exact ⟨by omega, this.2.1, this.2.2⟩
theorem told_rise : ∀ (X : List (List Row)) (m : Int), (∀ c ∈ X, c ≠ []) → riseB m X.flatten = true → riseB m (X.map tell) = true
  | [], _, _, _ => rfl
  | c :: X, m, h, hr => by
    rw [List.flatten_cons] at hr
    have h1 := rise_append (h c (by simp)) hr
    have hb := fold_bounds c
    rw [List.map_cons, riseB_cons]
    exact ⟨⟨h1.1, h1.2.1, hb.1, hb.2⟩, told_rise X _ (fun d hd => h d (by simp [hd])) h1.2.2⟩
/-- What tells of right rows' chunks is right. -/
theorem told_ok {l : List Row} (h : rowsErr l = 0) (n : Int) : rowsErr ((chunks n l).map tell) = 0 := by
  obtain ⟨h1, h2⟩ := ok_rise h
  refine rowsErr_zero ?_ ?_
  · have := chunks_length n l
    rw [List.length_map]; omega
  · exact told_rise _ _ (fun c hc => (chunks_mem c hc).1) (by rw [chunks_flatten]; exact h2)

end Go.Pch
end

section
namespace Go.Pch
open Go.RowKit Go.Proofs

theorem tell_at {c : List Row} (h : 0 < c.length) : tell c = (c[c.length - 1].1, sumL c) := by
  rw [tell, List.getLast?_eq_getElem?, List.getElem?_eq_getElem (by omega)]; rfl

theorem World.size_lt_allocT (w : World) (o : Obj) : w.heap.size < (w.alloc o).heap.size := by simp

set_option maxRecDepth 100000 in
set_option maxHeartbeats 1000000 in
theorem chunkTold (v : Value) (X : List (List Row)) (S : Blk) (w : World) (h : Sl tRow.slice w S v X) (hX : ∀ (i : Nat) (c : List Row), X[i]? = some c → 0 < c.length ∧ fineB c = true) (hl : X.length ≤ 1000000) :
    Calls Tryz.prog 54 #[v] w (Ret w fun r w' => Sl tRow w' (fun k => w.heap.size ≤ k) r (X.map tell)) := by
  have hv := h.old
  obtain ⟨ao, cap, rfl, hcap, hmax, hnil⟩ := h.shape
  unfold maxLen at hmax
  have HX := keepBack hX
  clear hX
  go_enter Tryz.func54, Tryz.ntmps54
  go_wp2
  go_loopw [3, 8] (fun out i wr => ∃ (j : Nat), j ≤ X.length ∧ i = .int .i64 j ∧ Below w.heap.size w wr ∧ Own tRow 44 wr w.heap.size (fun _ => False) out ((X.take j).map tell)) (fun _ i _ => X.length - (intOf i).toNat)
  case atStart => exact ⟨0, Nat.zero_le _, rfl, Below.refl _ _, .nil⟩
  case round =>
    obtain ⟨j, hj, rfl, hb, ho⟩ := hrel
    have hs := hb.size
    by_cases hlt : j < X.length
    · obtain ⟨ck, hck⟩ : ∃ ck, X[j]? = some ck := ⟨X[j], List.getElem?_eq_getElem hlt⟩
      obtain ⟨z1, z2⟩ := HX.out j ck hck
      obtain ⟨b, o, a2, c2, hix, _, hbs, hsk0, hc2, hcm2, hc00⟩ := hv.idxSlAt aLev j j ck ck.length rfl hck rfl
      obtain ⟨b', o', hixr, hb', _, ok1, ok2, hr00, hr1⟩ := hsk0.idxRow aRow ((ck.length : Int) - 1) (ck.length - 1) (by omega) (by omega)
      have hc0 := (hb.cell (p := ⟨b, o, none⟩) hbs).trans hc00
      have HT := keepBack (tell_at z1)
      generalize ck[ck.length - 1] = r at *
      have hlen : ((X.take j).map tell).length = j := by simp; omega
      have hnext : (X.take (j + 1)).map tell = (X.take j).map tell ++ [tell ck] := by
        rw [List.take_add_one, hck, List.map_append]; rfl
      have HN := keepBack hnext
      generalize (X.take j).map tell = G at ho hlen HN
      have HL := keepBack (show G.length ≤ j by omega)
      have hsb := fold_bounds ck
      clear hck hlen hnext
      have hwr : IntKind.i64.wrap ((ck.length : Int) - 1) = (ck.length : Int) - 1 := by rw [IntKind.wrap_i64]; unfold maxLen at hcm2; omega
      obtain ⟨ao3, c3, rfl, _, _⟩ := ho.shape
      go_wp2_with fail
      have KS : ∀ W, Below w.heap.size w W → Below w.heap.size w W ∧ W.cell? ⟨b', o', none⟩ = some (.int .i64 r.1) := fun W hW => ⟨hW, (hW.cell (p := ⟨b', o', none⟩) hb').trans hr00⟩
      have hone : ∀ W, tRow.rd W (fun _ => False) [.int .i64 r.1, .int .i64 (sumL ck)] (r.1, sumL ck) := fun W => tRow_mk _ _ _ _ ok1 (ok_small (by unfold sumL; omega))
      have HB : G.length + [(r.1, sumL ck)].length ≤ 1000000000000 := by have := HL.out; simp; omega
      go_region_held3 (fun w' => Below w.heap.size w w' ∧ w'.cell? ⟨b', o', none⟩ = some (.int .i64 r.1))
        (first
          | exact KS _ hb.drew
          | exact KS _ hb
          | exact KS _ (by assumption)
          | exact KS _ (Below.alloc (by assumption) (by omega) _)
          | fail)
        (first
          | (go_at_call 90; refine (chunkOf _ ck _ wr.drew (hsk0.below hb.drew) z2).mono ?_; rintro e w1 ⟨_, rfl, rfl, b1⟩; have ho1 := (ho.keep (w' := wr.drew) fun _ _ _ => rfl).call b1; have hb1 : Below w.heap.size w w1 := hb.drew.trans (b1.mono hs); have hs1 := hb1.size)
          | (refine step_grow rfl (.tmp 12) (.tmp 23) rfl aRow rfl (ho1.alloc _) rfl rfl (Src.one (hone _) _) nofun (fun _ h => h.elim) HB (Nat.le_trans hs1 (Nat.le_of_lt (World.size_lt_allocT _ _))) ?_; intro v2 w2 ho2 hg2; have hb2 : Below w.heap.size w w2 := (hb1.alloc hs1 _).grown hg2 (Nat.le_trans hs1 (Nat.le_of_lt (World.size_lt_allocT _ _))) (fun g hg => (ho1.block g hg).1)))
      go_wp2
      go_roundw
      case rel => exact ⟨j + 1, by omega, by go_num, hb2, by rw [HN.out, HT.out]; exact ho2⟩
      case measure => simp [intOf]; omega
    · obtain rfl : j = X.length := by omega
      go_wp2
      go_ret
      rw [List.take_length] at ho
      exact ⟨_, rfl, ho.sl (fun _ h => h.elim) (fun _ h => h), hb⟩

end Go.Pch
end

section
namespace Go.Pch
open Go.RowKit Go.Proofs

theorem aTree : At Tryz.prog tRow.slice.slice 37 47 := At.mk' Tryz.underlying37 (z := .slice none 0 0) (size := 1) (bytes := 24) (by kernel_rfl) rfl rfl (by decide)

theorem refSameLevel_of {c : Bool} (v u : Value) (l m : List (List Row)) (S S' : Blk) (w : World) (h : Sl tRow.slice w S v l) (g : Sl tRow.slice w S' u m) (hc : decide (l = m) = c) :
    Calls Tryz.prog 35 #[v, u] w (Quiet w (.bool c)) := hc ▸ refSameLevel v u l m S S' w h g

set_option maxHeartbeats 400000 in
theorem refSameTrees (v u : Value) (l m : List (List (List Row))) (S S' : Blk) (w : World) (h : Sl tRow.slice.slice w S v l) (g : Sl tRow.slice.slice w S' u m) :
    Calls Tryz.prog 14 #[v, u] w (Quiet w (.bool (decide (l = m)))) := by
  obtain ⟨ao, cap, rfl, hcap, hmax, hnil⟩ := h.shape
  obtain ⟨ao', cap', rfl, hcap', hmax', hnil'⟩ := g.shape
  unfold maxLen at hmax hmax'
  by_cases he : l.length = m.length
  · have hne : (((l.length : Nat) : Int) != (m.length : Int)) = false := by simp [he]
    have hl1 : l.length ≤ m.length := by omega
    have hl2 : m.length ≤ l.length := by omega
    clear he
    go_enter Tryz.func14, Tryz.ntmps14
    go_wp2
    go_loopw [5] (fun i wr => ∃ (k : Nat), k ≤ l.length ∧ i = .int .i64 k ∧ Drawn w wr ∧ Hid (l.take k = m.take k)) (fun i _ => l.length - (intOf i).toNat)
    case atStart => exact ⟨0, Nat.zero_le _, rfl, .refl _, rfl⟩
    case round =>
      obtain ⟨k, hk, rfl, hd, hm⟩ := hrel
      by_cases hlt : k < l.length
      · obtain ⟨b, o, a1, c1, hix, _, hbs, hs1, _, _, hc0⟩ := (h.call hd.below).idxSl aTree k k rfl hlt
        obtain ⟨b', o', a2, c2, hix', _, hbs', hs2, _, _, hc0'⟩ := (g.call hd.below).idxSl aTree k k rfl (by omega)
        cases hq : decide (l[k] = m[k]) with
        | true =>
          go_wp2_with fail
          go_quiet ((go_at_call 35; exact quietOf (refSameLevel_of _ _ _ _ _ _ _ (hs1.keep fun _ _ _ => rfl) (hs2.keep fun _ _ _ => rfl) hq)))
          go_wp2
          go_roundw
          case rel => exact ⟨k + 1, by omega, by go_num, hd.next _, take_more hlt (by omega) hm.out (by simpa using hq)⟩
          case measure => simp [intOf]; omega
        | false =>
          go_wp2_with fail
          go_quiet ((go_at_call 35; exact quietOf (refSameLevel_of _ _ _ _ _ _ _ (hs1.keep fun _ _ _ => rfl) (hs2.keep fun _ _ _ => rfl) hq)))
          go_wp2
          go_ret
          refine ⟨ret_no fun e => ?_, hd.next _⟩
          subst e
          simp at hq
      · go_wp2
        go_ret
        exact ⟨ret_yes (take_all hlt hl1 hl2 hm.out), hd⟩
  · have hne : (((l.length : Nat) : Int) != (m.length : Int)) = true := by simp; omega
    go_enter Tryz.func14, Tryz.ntmps14
    go_wp2
    go_ret
    exact ⟨ret_no fun e => he (by rw [e]), .refl _⟩

theorem refSameTrees_of {c : Bool} (v u : Value) (l m : List (List (List Row))) (S S' : Blk) (w : World) (h : Sl tRow.slice.slice w S v l) (g : Sl tRow.slice.slice w S' u m) (hc : decide (l = m) = c) :
    Calls Tryz.prog 14 #[v, u] w (Quiet w (.bool c)) := hc ▸ refSameTrees v u l m S S' w h g

end Go.Pch
end

section
namespace Go.Pch
open Go.RowKit Go.Proofs

theorem chunk_of_fine {l : List Row} (hf : fineB l = true) (n : Int) : ∀ (i : Nat) (c : List Row), (chunks n l)[i]? = some c → 0 < c.length ∧ fineB c = true := fun i c hc => by
  refine ⟨(chunks_sizes i c hc).1, ?_⟩
  rw [fineB, List.all_eq_true] at hf ⊢
  exact fun r hr => hf r ((chunks_mem c (List.mem_of_getElem? hc)).2 r hr)

set_option maxRecDepth 100000 in
set_option maxHeartbeats 1000000 in
theorem refBuild (v : Value) (l : List Row) (S : Blk) (w : World) (h : Sl tRow w S v l) (hok : rowsErr l = 0) :
    Calls Tryz.prog 33 #[v] w (Ret w fun r w' => Sl tRow.slice.slice w' (fun k => w.heap.size ≤ k) r (treeL l)) := by
  have hv := h
  obtain ⟨ao, cap, rfl, hcap, hmax, hnil⟩ := h.shape
  unfold maxLen at hmax
  go_enter Tryz.func33, Tryz.ntmps33
  go_wp2_with fail
  go_loopw [0, 3] (fun lc out wr => ∃ (cur : List Row) (done : List (List (List Row))), Below w.heap.size w wr ∧ Own tRow.slice.slice 47 wr w.heap.size (fun k => w.heap.size ≤ k) out done ∧ Sl tRow wr (fun _ => True) lc cur ∧ Hid (rowsErr cur = 0) ∧ done.length + cur.length ≤ 50 ∧ Hid (treeL l = done ++ treeN done.length cur)) (fun lc _ _ => match lc with | .slice _ n _ => n | _ => 0)
  case atStart => exact ⟨l, [], Below.refl _ _, .nil, hv.any, hok, by have := (ok_rise hok).1; simp; omega, rfl⟩
  case round =>
    obtain ⟨cur, done, hb, ho, hc, hcok, hdl, ht⟩ := hrel
    have hs := hb.size
    have h40 := (ok_rise hcok.out).1
    obtain ⟨ac, cc, rfl, _, _, _⟩ := hc.shape
    obtain ⟨ad, cd, rfl, _, _⟩ := ho.shape
    by_cases hcur : cur = []
    · subst hcur
      go_wp2
      go_ret
      exact ⟨_, rfl, by rw [ht.out, treeN_nil, List.append_nil]; exact ho.sl (fun _ h => h) (fun _ h => h), hb⟩
    · have hcl : 0 < cur.length := List.length_pos_iff.2 hcur
      go_wp2_with fail
      refine (refCut _ cur (done.length : Int) _ wr hc (by omega)).mono ?_; rintro e w1 ⟨vl, rfl, hvl, b1⟩
      have s1 := b1.size
      have HT := keepBack (fun h => treeN_top (n := (done.length : Int)) hcur h)
      have HM := keepBack (fun h => treeN_more (n := (done.length : Int)) hcur h)
      have hXh := chunks_half (done.length : Int) cur
      have hXp := chunks_pos (n := (done.length : Int)) hcur
      have HXF := keepBack (chunk_of_fine (ok_fine hcok.out) (done.length : Int))
      have HTO := keepBack (told_ok hcok.out (done.length : Int))
      generalize chunks (done.length : Int) cur = X at *
      obtain ⟨al, cl, rfl, _, _, _⟩ := hvl.shape
      have hob := ho.block
      have ho1 := ho.call b1
      go_wp2_with (at_builtin; refine wpList_grow rfl (.tmp 13) (.tmp 15) rfl aTree rfl (ho1.alloc _) rfl (by simp) (Src.one (cs := [_]) hvl _) (by simp) ?_ (by simp; omega) (by simp; omega) ?_)
      · intro q hq _
        refine ⟨by omega, fun e => ?_⟩
        have := hob q e.symm
        omega
      intro v2 w2 ho2 hg2
      have hb2 : Below w.heap.size w w2 := ((hb.trans (b1.mono hs)).alloc (by omega) _).grown hg2 (by simp; omega) (fun g hg => (hob g hg).1)
      by_cases h1 : X.length = 1
      · have HT1 := keepBack (HT.out h1)
        have hq : ((X.length : Int) == 1) = true := by simp [h1]
        clear h1
        go_wp2
        go_ret
        exact ⟨_, rfl, by rw [ht.out, HT1.out]; exact ho2.sl (fun _ h => h) (fun _ h => h), hb2⟩
      · have HM1 := keepBack (HM.out h1)
        have hq : ((X.length : Int) == 1) = false := by simp; omega
        have hvl2 : Sl tRow.slice w2 (fun k => k < w2.heap.size) (.slice al X.length cl) X := ((hvl.call ((Below.refl _ _).alloc (Nat.le_refl _) _)).keep (w' := w2) fun k hk hlt => hg2.block k hlt (by intro e; have := hob k e.symm; omega)).old
        have hs2 := hb2.size
        have hX50 : X.length ≤ 50 := by omega
        go_wp2_with fail
        go_loopw [0, 5] (fun lc i wr' => ∃ (j : Nat), j ≤ X.length ∧ i = .int .i64 j ∧ Below w2.heap.size w2 wr' ∧ Own tRow 44 wr' w2.heap.size (fun _ => False) lc ((X.take j).map tell)) (fun _ i _ => X.length - (intOf i).toNat)
        case atStart => exact ⟨0, Nat.zero_le _, rfl, Below.refl _ _, .nil⟩
        case round =>
          obtain ⟨j, hj, rfl, hb3, ho3⟩ := hrel
          have hs3 := hb3.size
          by_cases hlt : j < X.length
          · obtain ⟨ck, hck⟩ : ∃ ck, X[j]? = some ck := ⟨X[j], List.getElem?_eq_getElem hlt⟩
            obtain ⟨z1, z2⟩ := HXF.out j ck hck
            obtain ⟨b, o, a2, c2, hix, _, hbs, hsk0, hc2, hcm2, hc00⟩ := hvl2.idxSlAt aLev j j ck ck.length rfl hck rfl
            obtain ⟨b', o', hixr, hb', _, ok1, ok2, hr00, hr1⟩ := hsk0.idxRow aRow ((ck.length : Int) - 1) (ck.length - 1) (by omega) (by omega)
            have hcc := (hb3.cell (p := ⟨b, o, none⟩) hbs).trans hc00
            have HTE := keepBack (tell_at z1)
            generalize ck[ck.length - 1] = r at *
            have hlen : ((X.take j).map tell).length = j := by simp; omega
            have hnext : (X.take (j + 1)).map tell = (X.take j).map tell ++ [tell ck] := by
              rw [List.take_add_one, hck, List.map_append]; rfl
            have HN := keepBack hnext
            generalize (X.take j).map tell = G at ho3 hlen HN
            have HL := keepBack (show G.length ≤ j by omega)
            have hsb := fold_bounds ck
            clear hck hlen hnext
            have hwr : IntKind.i64.wrap ((ck.length : Int) - 1) = (ck.length : Int) - 1 := by rw [IntKind.wrap_i64]; unfold maxLen at hcm2; omega
            obtain ⟨ao3, c3, rfl, _, _⟩ := ho3.shape
            go_wp2_with fail
            have KS : ∀ W, Below w2.heap.size w2 W → Below w2.heap.size w2 W ∧ W.cell? ⟨b', o', none⟩ = some (.int .i64 r.1) ∧ W.cell? ⟨b, o, none⟩ = some (.slice a2 ck.length c2) := fun W hW => ⟨hW, (hW.cell (p := ⟨b', o', none⟩) hb').trans hr00, (hW.cell (p := ⟨b, o, none⟩) hbs).trans hc00⟩
            have hone : ∀ W, tRow.rd W (fun _ => False) [.int .i64 r.1, .int .i64 (sumL ck)] (r.1, sumL ck) := fun W => tRow_mk _ _ _ _ ok1 (ok_small (by unfold sumL; omega))
            have HB : G.length + [(r.1, sumL ck)].length ≤ 1000000000000 := by have := HL.out; simp; omega
            go_region_held3 (fun w' => Below w2.heap.size w2 w' ∧ w'.cell? ⟨b', o', none⟩ = some (.int .i64 r.1) ∧ w'.cell? ⟨b, o, none⟩ = some (.slice a2 ck.length c2))
              (first
                | exact KS _ hb3.drew
                | exact KS _ hb3
                | exact KS _ (by assumption)
                | exact KS _ (Below.alloc (by assumption) (by omega) _)
                | fail)
              (first
                | (go_at_call 64; refine (refSum _ ck _ wr.drew (hsk0.below hb3.drew) z2).mono ?_; rintro e w4 ⟨rfl, d4⟩; have ho4 := (ho3.keep (w' := wr.drew) fun _ _ _ => rfl).call d4.below; have hb4 : Below w2.heap.size w2 w4 := hb3.drew.trans (d4.below.mono hs3); have hs4 := hb4.size)
                | (refine step_grow rfl (.tmp 26) (.tmp 46) rfl aRow rfl (ho4.alloc _) rfl rfl (Src.one (hone _) _) nofun (fun _ h => h.elim) HB (Nat.le_trans hs4 (Nat.le_of_lt (World.size_lt_allocT _ _))) ?_; intro v5 w5 ho5 hg5; have hb5 : Below w2.heap.size w2 w5 := (hb4.alloc hs4 _).grown hg5 (Nat.le_trans hs4 (Nat.le_of_lt (World.size_lt_allocT _ _))) (fun g hg => (ho4.block g hg).1)))
            go_wp2
            go_roundw
            case rel => exact ⟨j + 1, by omega, by go_num, hb5, by rw [HN.out, HTE.out]; exact ho5⟩
            case measure => simp [intOf]; omega
          · obtain rfl : j = X.length := by omega
            rw [List.take_length] at ho3
            obtain ⟨al3, cl3, rfl, _, _⟩ := ho3.shape
            go_wp2
            go_roundw
            case rel => exact ⟨X.map tell, done ++ [X], hb2.trans (hb3.mono hs2), ho2.call hb3, ho3.sl (fun _ h => h.elim) (fun _ _ => trivial), HTO.out, by simp; omega, keepBack (by rw [ht.out, HM1.out, List.length_append, List.length_singleton, Int.natCast_add, Int.natCast_one, List.append_assoc]; rfl)⟩
            case measure => simp; omega

end Go.Pch
end

section
namespace Go.Pch
open Go.RowKit Go.Proofs

/-- C1: Build's answer. -/
def buildP (l : List Row) : List (List (List Row)) × Int := if rowsErr l = 0 then (treeL l, 0) else ([], rowsErr l)

set_option maxRecDepth 100000 in
theorem refBuildOf (v : Value) (l : List Row) (S : Blk) (w : World) (h : Sl tRow w S v l) :
    Calls Tryz.prog 11 #[v] w (Ret w fun r w' => ∃ x, r = .tuple #[x, .int .i64 (buildP l).2] ∧ Sl tRow.slice.slice w' (fun k => w.heap.size ≤ k) x (buildP l).1) := by
  by_cases he : rowsErr l = 0
  · have hP : buildP l = (treeL l, 0) := by rw [buildP, if_pos he]
    go_enter Tryz.func11, Tryz.ntmps11
    go_wp2_with fail
    refine (refRowsError v l S w h).mono ?_; rintro e w1 ⟨rfl, d1⟩
    rw [he]
    go_wp2_with fail
    refine (refBuild v l S w1 (h.call d1.below) he).mono ?_; rintro e w2 ⟨x, rfl, hx, b2⟩
    have s1 := d1.below.size
    go_wp2
    go_ret2
    exact ⟨_, rfl, ⟨_, by rw [hP]; rfl, by rw [hP]; exact hx.mono fun k hk _ => by omega⟩, d1.below.trans (b2.mono s1)⟩
  · have he' : (rowsErr l != 0) = true := by simp [he]
    have hP : buildP l = ([], rowsErr l) := by rw [buildP, if_neg he]
    go_enter Tryz.func11, Tryz.ntmps11
    go_wp2_with fail
    refine (refRowsError v l S w h).mono ?_; rintro e w1 ⟨rfl, d1⟩
    go_wp2
    go_ret2
    exact ⟨_, rfl, ⟨_, by rw [hP]; rfl, by rw [hP]; exact Sl.nil _ _ _⟩, d1.below⟩

end Go.Pch
end
