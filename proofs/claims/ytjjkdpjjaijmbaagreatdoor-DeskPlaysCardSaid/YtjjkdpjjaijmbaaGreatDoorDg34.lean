/- The walk of tree.Of: a range over chunk.All inside a loop. The walks of slices.Grow (at the nil slice) and slices.Concat. -/
import Derived.Test.YtjjkdpjjaijmbaaGreatDoorDg33
import Derived.Test.YtjjkdpjjaijmbaaGreatDoorDg13
import Derived.Lib.AppendZerosOnto
import Derived.Lib.SliceRun
section
namespace Go.Pch
open Go.RowKit Go.Proofs
attribute [local go_sem] Oper.semAt_some
def markAt (D : Nat) : Deferred := { target := .collected D, args := #[] }
theorem leaves_marks {P : Program} {fn : Func} {tmps : Array Value} {R : Ending → World → Prop} : ∀ (Ds : List Nat) (W : World), Ds.Nodup → (∀ D ∈ Ds, W.heap[D]? = some (.deferred (some []))) →
    (∀ W' : World, W'.os = W.os → W'.tape = W.tape → W'.output = W.output → W'.heap.size = W.heap.size → (∀ k, k ∉ Ds → W'.heap[k]? = W.heap[k]?) → ∃ v, (results fn tmps).run P W' = .ok v W' ∧ R (.returned v) W') →
    LeavesInM Fence.wide 0 P fn tmps R (Ds.map markAt) .returning W
  | [], W, _, _, h => h W rfl rfl rfl rfl (fun _ _ => rfl)
  | D :: Ds, W, hn, hm, h => by
    obtain ⟨hn1, hn2⟩ := List.nodup_cons.1 hn
    refine ⟨by simp, .inl ⟨D, _, rfl, run_takeDeferred (hm D (by simp)), leaves_marks Ds _ hn2 (fun E hE => (World.putObj_heap_other (by rintro rfl; exact hn1 hE)).trans (hm E (by simp [hE]))) fun W' h1 h2 h3 h4 h5 => ?_⟩⟩
    refine h W' h1 h2 h3 (by simpa using h4) fun k hk => ?_
    simp only [List.mem_cons, not_or] at hk
    exact (h5 k hk.2).trans (World.putObj_heap_other hk.1)
theorem Own.slAt {α : Type} {E : Ty α} {e : TypeId} {w : World} {B : Nat} {C D : Blk} {v : Value} {l : List α} (h : Own E e w B C v l) (hC : ∀ k, C k → D k) (hB : ∀ g, v.ownBlock = some g → D g) : Sl E w D v l := by
  obtain ⟨xs, hr, hE⟩ := h
  have h' : Own E e w B C v l := ⟨xs, hr, hE⟩
  rcases hr.2 with ⟨rfl, h0⟩ | ⟨g, cap, cur, rfl, hb, hg, h1, h2, h3, h4⟩
  · obtain rfl := List.eq_nil_of_length_eq_zero h0
    exact Sl.nil E w D
  · obtain ⟨ao, len, cap', hv, e1, e2, e3, e4, e5⟩ := h'.sl (D := fun k => C k ∨ B ≤ k) (fun _ h => .inl h) (fun _ h => .inr h)
    simp at hv
    obtain ⟨rfl, rfl, rfl⟩ := hv
    refine ⟨_, _, _, rfl, rfl, e2, e3, e4, fun i a hi => ?_⟩
    have hlt := (List.getElem?_eq_some_iff.1 hi).1
    have hlx : i < xs.length := by have := hE.1; omega
    have hsz := hE.lens xs[i] (List.getElem_mem hlx)
    refine ⟨g, 0, rfl, hB g rfl, xs[i], E.mono (hE.2 i _ a (List.getElem?_eq_getElem hlx) hi) (fun k hk _ => hC k hk.1), fun j u hj => ?_⟩
    have hcells := hr.cells (g := g) rfl
    have hj' := (List.getElem?_eq_some_iff.1 hj).1
    have := hcells (i * E.size + j) u (by
      rw [flatten_get E.pos xs hE.lens]
      have e1 : (i * E.size + j) / E.size = i := by
        rw [Nat.mul_comm, Nat.mul_add_div E.pos, Nat.div_eq_of_lt (by omega)]; rfl
      have e2 : (i * E.size + j) % E.size = j := by
        rw [Nat.mul_comm, Nat.mul_add_mod, Nat.mod_eq_of_lt (by omega)]
      rw [e1, e2, List.getElem?_eq_getElem hlx]
      exact hj)
    rw [Addr.add_lit, ← Nat.add_assoc] at this
    exact ⟨this, frozen_of_row w g _ _ _ hg⟩
theorem Own.isCells {α : Type} {E : Ty α} {e : TypeId} {w : World} {B : Nat} {C : Blk} {v : Value} {l : List α} (h : Own E e w B C v l) : ∀ g, v.ownBlock = some g → ∃ c, w.heap[g]? = some (.cells c e) := by
  obtain ⟨xs, hr, hE⟩ := h
  rcases hr.2 with ⟨rfl, h0⟩ | ⟨g, cap, cur, rfl, hb, hg, _⟩
  · intro g hg; simp [Value.ownBlock] at hg
  · intro g' hg'
    simp [Value.ownBlock] at hg'
    subst hg'
    exact ⟨_, hg⟩
structure TreeOfInv (w : World) (l : List Row) (lc out : Value) (Ds : List Nat) (wr : World) (cur : List Row) (done : List (List (List Row))) : Prop where
  below : Below w.heap.size w wr
  own : Own tRow.slice.slice 122 wr w.heap.size (fun k => w.heap.size ≤ k ∧ k ∉ Ds) out done
  rows : Sl tRow wr (fun _ => True) lc cur
  ok : rowsErr cur = 0
  small : done.length + cur.length ≤ 50
  tree : treeL l = done ++ treeN done.length cur
  nodup : Ds.Nodup
  marks : ∀ D ∈ Ds, wr.heap[D]? = some (.deferred (some [])) ∧ w.heap.size ≤ D
def lenOfT : Value → Nat
  | .slice _ n _ => n
  | _ => 0
theorem treeOf_ret {w W : World} {v : Value} {Ds : List Nat} {tmps : Array Value} {t : List (List (List Row))} (h2 : tmps.getD 2 undef = v) (hb : Below w.heap.size w W)
    (ho : Own tRow.slice.slice 122 W w.heap.size (fun k => w.heap.size ≤ k ∧ k ∉ Ds) v t) (hn : Ds.Nodup) (hm : ∀ D ∈ Ds, W.heap[D]? = some (.deferred (some [])) ∧ w.heap.size ≤ D) :
    bodyPostM Fence.wide 0 Tryz.prog Tryz.f67 (Ret w fun r w' => Sl tRow.slice.slice w' (fun k => w.heap.size ≤ k) r t) Exit.ret { tmps := tmps, defers := Ds.map markAt } W := by
  refine leaves_marks Ds W hn (fun D hD => (hm D hD).1) fun W' e1 e2 e3 e4 e5 => ⟨_, results_tmp rfl _ _ _, _, rfl, ?_, hb.trans ⟨e1, e2, e3, by omega, fun k hk => e5 k fun hD => by have := (hm k hD).2; omega⟩⟩
  have ha : ∀ g, v.ownBlock = some g → g ∉ Ds := fun g hg hD => by
    obtain ⟨c, hc⟩ := ho.isCells g hg
    have := (hm g hD).1
    rw [hc] at this
    cases this
  rw [h2]
  exact ((ho.slAt (D := fun k => w.heap.size ≤ k ∧ k ∉ Ds) (fun _ h => h) (fun g hg => ⟨(ho.block g hg).1, ha g hg⟩)).keep fun k hk _ => e5 k hk.2).mono fun k hk _ => hk.1
set_option maxRecDepth 100000 in
set_option maxHeartbeats 1000000 in
theorem treeOf (v : Value) (l : List Row) (S : Blk) (w : World) (h : Sl tRow w S v l) (hok : rowsErr l = 0) :
    Calls Tryz.prog 67 #[v] w (Ret w fun r w' => Sl tRow.slice.slice w' (fun k => w.heap.size ≤ k) r (treeL l)) := by
  have hv := h
  obtain ⟨ao, cap, rfl, hcap, hmax, hnil⟩ := h.shape
  unfold maxLen at hmax
  refine (callsIn_wide (n := 0)).1 (callsIn_of_wp_marks Tryz.func67 rfl trivial ?_)
  simp only [Tryz.ntmps67, List.size_toArray, List.length_cons, List.length_nil, Nat.reduceAdd, Nat.reduceSub, Array.replicate_succ, Array.replicate_zero, List.push_toArray, List.append_toArray, List.nil_append, List.cons_append]
  gi_wp2_with fail
  refine wpIn_loop (fun a wr => ∃ (lc out u4 u5 u6 u7 u8 u9 u10 u11 u12 u13 u14 u15 u16 u17 u18 u19 u20 u21 u22 u23 u24 u25 u26 u27 : Value) (Ds : List Nat) (cur : List Row) (done : List (List (List Row))),
    TreeOfInv w l lc out Ds wr cur done ∧ a = { tmps := #[lc, undef, .slice none 0 0, out, u4, u5, u6, u7, u8, u9, u10, u11, u12, u13, u14, u15, u16, u17, u18, u19, u20, u21, u22, u23, u24, u25, u26, u27, undef], defers := Ds.map markAt }) (fun a _ => lenOfT (a.tmps.getD 0 undef)) ?_ ?_
  · exact ⟨_, _, _, _, _, _, _, _, _, _, _, _, _, _, _, _, _, _, _, _, _, _, _, _, _, _, [], l, [], ⟨.refl _ _, .nil, hv.any, hok, by have := (ok_rise hok).1; simp; omega, rfl, .nil, by simp⟩, rfl⟩
  · rintro _ wr ⟨lc, out, u4, u5, u6, u7, u8, u9, u10, u11, u12, u13, u14, u15, u16, u17, u18, u19, u20, u21, u22, u23, u24, u25, u26, u27, Ds, cur, done, hI, rfl⟩
    have hc := hI.rows
    have ho := hI.own
    have hb := hI.below
    have hs := hb.size
    obtain ⟨ac, cc, rfl, hcc, hcm, _⟩ := hc.shape
    obtain ⟨ad, cd, rfl, _, _⟩ := ho.shape
    have hdl := hI.small
    by_cases hcur : cur = []
    · subst hcur
      gi_wp2
      have ht := hI.tree
      rw [treeN_nil, List.append_nil] at ht
      rw [ht]
      exact treeOf_ret rfl hb ho hI.nodup hI.marks
    · have hcl : 0 < cur.length := List.length_pos_iff.2 hcur
      gi_wp2_with fail
      refine ⟨trivial, rfl, callsIn_wide.2 ?_⟩
      have h1 := hc.call ((Below.refl _ _).alloc (Nat.le_refl _) (.cells #[.slice none 0 0] 122))
      refine (chunkAll _ cur done.length _ _ h1).mono ?_; rintro e w' ⟨rfl, rfl⟩
      gi_wp2_with fail
      obtain ⟨w3, hw3⟩ : ∃ w3, (((wr.alloc (.cells #[.slice none 0 0] 122)).alloc (.cells #[Value.slice ac cur.length cc] 56)).alloc (.cells #[.int .i64 done.length] 3)) = w3 := ⟨_, rfl⟩
      have hz3 : w3.heap.size ≤ wr.heap.size + 3 ∧ wr.heap.size + 3 ≤ w3.heap.size := by rw [← hw3]; simp
      have hbw3 : Below wr.heap.size wr w3 := by rw [← hw3]; exact (((Below.refl _ _).alloc (Nat.le_refl _) _).alloc (by simp) _).alloc (by simp; omega) _
      have hcb : w3.cell? ⟨wr.heap.size, 0, none⟩ = some (.slice none 0 0) := by rw [← hw3]; exact on_cell (on_cell (new_cell _ _ _) _) _
      have hfb : w3.frozen? ⟨wr.heap.size, 0, none⟩ = false := by rw [← hw3]; exact on_free (on_cell (new_cell _ _ _) _) (on_free (new_cell _ _ _) (new_free _ _ _) _) _
      have hcl3 : w3.cell? ⟨wr.heap.size + 1, 0, none⟩ = some (Value.slice ac cur.length cc) := by rw [← hw3]; exact on_cell (by simp) _
      have hfl : w3.frozen? ⟨wr.heap.size + 1, 0, none⟩ = false := by rw [← hw3]; exact on_free (x := Value.slice ac cur.length cc) (by simp) (by simp) _
      have hcn : w3.cell? ⟨wr.heap.size + 1 + 1, 0, none⟩ = some (.int .i64 done.length) := by rw [← hw3]; simpa using new_cell ((wr.alloc (.cells #[.slice none 0 0] 122)).alloc (.cells #[Value.slice ac cur.length cc] 56)) (.int .i64 done.length) 3
      rw [hw3]
      have hs3 : Sl tRow w3 (fun k => k < wr.heap.size) (Value.slice ac cur.length cc) cur := hc.old.keep fun k hk _ => hbw3.block k hk
      clear hw3
      refine wpIn_over (Bo := wr.heap.size) rfl (enters_of Tryz.func145 (by kernel_rfl) rfl)
        (chunkAll1 w3 w3.heap.size wr.heap.size (wr.heap.size + 1) (wr.heap.size + 1 + 1) _ cur done.length hcl3 hfl hcn (by omega) (by omega) (by omega) (by omega) (by omega) (by omega) (hs3.mono fun k hk _ => by omega)) (by omega) rfl
        (fun pre W => ∃ vo, Boxed tRow.slice 56 wr.heap.size (w3.heap.size + 2) wr vo pre W) ?_ ?_ ⟨_, hcb, hfb, .nil, hbw3⟩
        (fun x => { tmps := #[Value.slice ac cur.length cc, undef, .slice none 0 0, Value.slice ad done.length cd, .pointer (some ⟨wr.heap.size, 0, none⟩), x, Value.slice ac cur.length cc, .int .i64 cur.length, .bool true, Value.slice ac cur.length cc, Value.slice ad done.length cd, .int .i64 done.length,
          .func (.func 145) #[] #[.pointer (some ⟨wr.heap.size + 1, 0, none⟩), .pointer (some ⟨wr.heap.size + 1 + 1, 0, none⟩)], x, u14, u15, u16, u17, u18, u19, u20, u21, u22, u23, u24, u25, u26, u27, undef], defers := [] }) ?assign ?body ?done
      case assign =>
        intro l v W K hK
        gi_wp2
        exact hK
      case body =>
        rintro ll pre x u A W2 hll ⟨vo, hB⟩ hlA hsz hww hkk hpre hu
        have hB2 := hB.turn (r1 := wr.heap.size + 1) (r2 := ll) hsz hww hkk (by omega) (by omega) (by omega) (by omega) (by omega) (by omega)
        have hob := hB.own.block
        have hlen := hpre.length_le
        have hcl2 := chunks_length (done.length : Int) cur
        simp only [List.length_append, List.length_cons, List.length_nil] at hlen
        obtain ⟨ax, cx, rfl, _, _, _⟩ := hu.shape
        obtain ⟨ao, co, rfl, _, _⟩ := hB2.own.shape
        have hcell := hB2.cell
        have hfree := hB2.free
        have hBo : wr.heap.size < W2.heap.size := by omega
        gi_wp2_with (gi_at_builtin; refine wpListIn_grow rfl (.tmp 14) (.tmp 16) rfl aLev rfl (hB2.own.alloc _) rfl (by simp) (Src.one (cs := [_]) hu _) (by simp) ?_ (by simp; omega) (by simp; omega) ?_)
        · intro q hq _
          refine ⟨by omega, fun e => ?_⟩
          have := hob q e.symm
          omega
        intro v2 w2 hown2 hgrow2
        obtain ⟨a2, c2, hv2, _, _⟩ := hown2.shape
        rw [show (pre ++ [x]).length = pre.length + 1 by simp] at hv2
        subst hv2
        have hne : some wr.heap.size ≠ (Value.slice ao pre.length co).ownBlock := by
          intro e; have := hob _ e.symm; omega
        have hcell2 := hgrow2.cell (a := ⟨wr.heap.size, 0, none⟩) (on_cell hcell _) hne
        have hfree2 := (World.frozen?_of_block (a := ⟨wr.heap.size, 0, none⟩) (hgrow2.block _ (by simp; omega) hne)).trans (on_free hcell hfree _)
        have hown2' := hown2.keep (w' := w2.setCell ⟨wr.heap.size, 0, none⟩ (.slice a2 (pre.length + 1) c2)) fun k hk _ => Below.heap_setCell _ _ _ _ (by
          rcases hk with h | h
          · have : w3.heap.size + 2 ≤ k := h
            simp; omega
          · have := hown2.block k h; simp; omega)
        have hBl : Below w3.heap.size W2 w2 := ((Below.refl _ _).alloc (by omega) _).grown hgrow2 (by simp; omega) (fun g hg => by have := hob g hg; omega)
        have hbl : ∀ k, k < w3.heap.size + 2 → k ≠ wr.heap.size → (w2.setCell ⟨wr.heap.size, 0, none⟩ (.slice a2 (pre.length + 1) c2)).heap[k]? = W2.heap[k]? := fun k hk hk' =>
          (Below.heap_setCell _ _ _ _ hk').trans ((hgrow2.block k (by simp; omega) (by intro e; have := hob _ e.symm; omega)).trans (Below.heap_alloc _ _ _ (by omega)))
        gi_wp2
        refine ⟨⟨_, World.cell?_setCell_same _ _ _ hcell2, by rw [World.frozen?_setCell]; exact hfree2, hown2', ?_⟩, ?_, hbl ll (by omega) (by omega), hbl _ (by omega) (by omega)⟩
        · exact ((hB2.below.trans (hBl.mono (by omega))).setCell (p := ⟨wr.heap.size, 0, none⟩) (by simp) _)
        · exact (KeepBut.of_below hBl).trans (.setCell (a := ⟨wr.heap.size, 0, none⟩) _)
      case done =>
        rintro W ⟨vo, hB⟩ hD
        have hbW : Below w.heap.size w W := hb.trans (hB.below.mono hs)
        have hsW := hB.below.size
        have hDs : ∀ D ∈ Ds, D < wr.heap.size := fun D hD => (Array.getElem?_eq_some_iff.1 (hI.marks D hD).1).1
        have hnd : (w3.heap.size :: Ds).Nodup := List.nodup_cons.2 ⟨fun hD => by have := hDs _ hD; omega, hI.nodup⟩
        have hoW : Own tRow.slice.slice 122 W w.heap.size (fun k => w.heap.size ≤ k ∧ k ∉ w3.heap.size :: Ds) (Value.slice ad done.length cd) done := (ho.mono fun k hk hlt => ⟨hk.1, by
          simp only [List.mem_cons, not_or]; exact ⟨by omega, hk.2⟩⟩).call hB.below
        have hmW : ∀ D ∈ w3.heap.size :: Ds, W.heap[D]? = some (.deferred (some [])) ∧ w.heap.size ≤ D := fun D hD' => by
          rcases List.mem_cons.1 hD' with rfl | hD'
          · exact ⟨hD, by omega⟩
          · exact ⟨(hB.below.block D (hDs D hD')).trans (hI.marks D hD').1, (hI.marks D hD').2⟩
        have hvX : Sl tRow.slice W (fun k => w3.heap.size + 2 ≤ k) vo (chunks done.length cur) := hB.own.sl (fun _ h => h) (fun _ h => h)
        have htr := hI.tree
        have HT := keepBack (fun h => treeN_top (n := (done.length : Int)) hcur h)
        have HM := keepBack (fun h => treeN_more (n := (done.length : Int)) hcur h)
        have hXh := chunks_half (done.length : Int) cur
        have hXp := chunks_pos (n := (done.length : Int)) hcur
        have HXF := keepBack (chunk_of_fine (ok_fine hI.ok) (done.length : Int))
        have HTO := keepBack (told_ok hI.ok (done.length : Int))
        have hcell := hB.cell
        clear hB
        generalize chunks (done.length : Int) cur = X at *
        obtain ⟨ao, co, rfl, _, _, _⟩ := hvX.shape
        have hob := hoW.block
        have hob0 := ho.block
        have HTR := keepBack htr
        clear htr
        gi_wp2_with (gi_at_builtin; refine wpListIn_grow rfl (.tmp 18) (.tmp 20) rfl aTree rfl (hoW.alloc _) rfl (by simp) (Src.one (cs := [_]) hvX _) (by simp) ?_ (by simp; omega) (by simp; omega) ?_)
        · intro q hq _
          refine ⟨⟨by omega, ?_⟩, fun e => ?_⟩
          · simp only [List.mem_cons, not_or]
            exact ⟨by omega, fun hD => by have := hDs q hD; omega⟩
          · have := hob0 q e.symm
            omega
        intro v2 w2 ho2 hg2
        have hb2 : Below w.heap.size w w2 := (hbW.alloc (by omega) _).grown hg2 (by simp; omega) (fun g hg => (hob g hg).1)
        have hm2 : ∀ D ∈ w3.heap.size :: Ds, w2.heap[D]? = some (.deferred (some [])) ∧ w.heap.size ≤ D := fun D hD' => by
          have hm := hmW D hD'
          have hlt := (Array.getElem?_eq_some_iff.1 hm.1).1
          refine ⟨(hg2.block D (by simp; omega) fun e => ?_).trans ((Below.heap_alloc _ _ _ hlt).trans hm.1), hm.2⟩
          obtain ⟨c, hc⟩ := hoW.isCells D e.symm
          rw [hm.1] at hc
          cases hc
        have hcell2 := hg2.cell (a := ⟨wr.heap.size, 0, none⟩) (on_cell hcell _) (fun e => by have : _ ∧ wr.heap.size < wr.heap.size := hob0 _ e.symm; omega)
        have ho2 := ho2.mono (D := fun k => w.heap.size ≤ k ∧ k ∉ w3.heap.size :: Ds) (fun k hk _ => by simpa using hk)
        obtain ⟨av, cv, hv2, _, _⟩ := ho2.shape
        rw [show (done ++ [X]).length = done.length + 1 by simp] at hv2
        subst hv2
        by_cases h1 : X.length = 1
        · have HT1 := keepBack (HT.out h1)
          have hq : ((X.length : Int) == 1) = true := by simp [h1]
          clear h1
          gi_wp2
          have ht := HTR.out
          rw [HT1.out] at ht
          rw [ht]
          exact treeOf_ret (Ds := w3.heap.size :: Ds) rfl hb2 ho2 hnd hm2
        · have HM1 := keepBack (HM.out h1)
          have hq : ((X.length : Int) == 1) = false := by simp; omega
          have hvX2 : Sl tRow.slice w2 (fun k => w3.heap.size + 2 ≤ k) (.slice ao X.length co) X := (hvX.call ((Below.refl _ _).alloc (Nat.le_refl _) _)).keep (w' := w2) fun k hk hlt => hg2.block k hlt (by intro e; have : w3.heap.size + 2 ≤ k := hk; have := hob0 k e.symm; omega)
          have hs2 := hb2.size
          gi_wp2_with fail
          refine ⟨trivial, rfl, callsIn_wide.2 ?_⟩
          refine (chunkTold _ X _ w2 hvX2 HXF.out (by omega)).mono ?_; rintro e w4 ⟨vt, rfl, hvt, b4⟩
          gi_wp2
          refine ⟨⟨_, _, _, _, _, _, _, _, _, _, _, _, _, _, _, _, _, _, _, _, _, _, _, _, _, _, w3.heap.size :: Ds, X.map tell, done ++ [X], ⟨hb2.trans (b4.mono hs2), ho2.call b4, hvt.any, HTO.out, by simp; omega, ?_, hnd, fun D hD' => ?_⟩, rfl⟩, ?_⟩
          · rw [HTR.out, HM1.out, List.length_append, List.length_singleton, Int.natCast_add, Int.natCast_one, List.append_assoc]; rfl
          · have hm := hm2 D hD'
            exact ⟨(b4.block D (Array.getElem?_eq_some_iff.1 hm.1).1).trans hm.1, hm.2⟩
          · obtain ⟨at', ct, rfl, _, _, _⟩ := hvt.shape
            simp [lenOfT]
            omega
      · rintro pre A B ⟨vo, hI⟩ hg
        exact ⟨vo, hI.turn (r1 := wr.heap.size + 1) (r2 := wr.heap.size + 1) hg.size ⟨hg.os, hg.tape, hg.output⟩ (fun k hk h1 _ => hg.block k hk (by simp; omega)) (by omega) (by omega) (by omega) (by omega) (by omega) (by omega)⟩
      · rintro pre A o ⟨vo, hI⟩
        exact ⟨vo, hI.turn (r1 := w3.heap.size + 1) (r2 := w3.heap.size + 1) (by simp) ⟨rfl, rfl, rfl⟩ (fun k hk h1 _ => World.putObj_heap_other h1) (by omega) (by omega) (by omega) (by omega) (by omega) (by omega)⟩
end Go.Pch
end

section
namespace Go.Pch
open Go.RowKit Go.Proofs
set_option maxRecDepth 100000
end Go.Pch
end
