/- The walks of chunk.All and chunk.Cut: a range over a function. -/
import Derived.Test.YtdbecbjhgiljoaaC4
import Derived.Test.YtdbecbjhgiljoaaRange
namespace Go.Pch
open Go.RowKit Go.Proofs
attribute [local go_sem] Oper.semAt_some

/-- How long the slice in a cell is: for a measure. -/
def lenAt (w : World) (b : Nat) : Nat := match w.cell? ⟨b, 0, none⟩ with
  | some (.slice _ n _) => n
  | _ => 0
theorem lenAt_of {w : World} {b : Nat} {ao : Option Addr} {n c : Nat} (h : w.cell? ⟨b, 0, none⟩ = some (.slice ao n c)) : lenAt w b = n := by rw [lenAt, h]

theorem grown_of_below {A B : World} (h : Below A.heap.size A B) (r : Option Nat) : A.grownBy B r := ⟨h.os, h.tape, h.output, h.size, fun k hk _ => h.block k hk⟩
theorem grown_setCell (A : World) (a : Addr) (v : Value) : A.grownBy (A.setCell a v) (some a.block) :=
  ⟨rfl, rfl, rfl, by simp, fun k _ hk => Below.heap_setCell _ _ _ _ (by intro e; exact hk (by rw [e]))⟩

set_option maxRecDepth 100000 in
set_option maxHeartbeats 1000000 in
theorem chunkAll1 (w0 : World) (N0 Bo Bl Bn : Nat) (v : Value) (L : List Row) (n : Int) (hl : w0.cell? ⟨Bl, 0, none⟩ = some v) (hf : w0.frozen? ⟨Bl, 0, none⟩ = false) (hn : w0.cell? ⟨Bn, 0, none⟩ = some (.int .i64 n))
    (b1 : Bl < N0) (b2 : Bn < N0) (b3 : Bl ≠ Bo) (b4 : Bn ≠ Bo) (b5 : Bn ≠ Bl) (hL : L.length ≤ 1000000) (hs : Sl tRow w0 (fun k => k < N0 ∧ k ≠ Bo ∧ k ≠ Bl) v L) :
    SeqRows Try.prog 72 #[.pointer (some ⟨Bl, 0, none⟩), .pointer (some ⟨Bn, 0, none⟩)] N0 Bo Bl (chunks n L) w0 := by
  intro l J W hW hJ hY h0
  have hl0 : W.cell? ⟨Bl, 0, none⟩ = some v := (World.cell?_of_block (hW.block Bl b1 b3)).trans hl
  have hf0 : W.frozen? ⟨Bl, 0, none⟩ = false := (World.frozen?_of_block (hW.block Bl b1 b3)).trans hf
  have hn0 : W.cell? ⟨Bn, 0, none⟩ = some (.int .i64 n) := (World.cell?_of_block (hW.block Bn b2 b4)).trans hn
  have hs0 := hs.keep (w' := W) fun k hk _ => hW.block k hk.1 hk.2.1
  clear hl hf hn hs
  refine callsIn_of_wp Try.func72 rfl trivial ?_ rfl
  simp only [Try.ntmps72, List.size_toArray, List.length_cons, List.length_nil, Nat.reduceAdd, Nat.reduceSub, Array.replicate_succ, Array.replicate_zero, List.push_toArray, List.append_toArray, List.nil_append, List.cons_append]
  gi_wp2
  gi_loopw [4] (fun _ wr => ∃ (pre : List (List Row)) (rest : List Row) (vc : Value), Hid (chunks n L = pre ++ chunks n rest) ∧ rest.length ≤ 1000000 ∧ wr.cell? ⟨Bl, 0, none⟩ = some vc ∧ wr.frozen? ⟨Bl, 0, none⟩ = false ∧
      wr.cell? ⟨Bn, 0, none⟩ = some (.int .i64 n) ∧ Sl tRow wr (fun k => k < N0 ∧ k ≠ Bo ∧ k ≠ Bl) vc rest ∧ Hid (J pre wr)) (fun _ wr => lenAt wr Bl)
  case atStart => exact ⟨[], L, v, rfl, hL, hl0, hf0, hn0, hs0, h0⟩
  case round =>
    obtain ⟨pre, rest, vc, hch, hrl, hcl, hcf, hcn, hsv, hj⟩ := hrel
    obtain ⟨ao, cap, rfl, hcap, hmax, hnil⟩ := hsv.shape
    by_cases hr : rest = []
    · subst hr
      gi_wp2
      go_end0
      exact ⟨⟨_, rfl⟩, by have := hch.out; rw [chunks_nil, List.append_nil] at this; rw [this]; exact hj.out⟩
    · have hp := List.length_pos_iff.2 hr
      have hc1 := cnt_pos n hr 0
      have hc2 := cnt_le n rest 0
      have hst := chunks_cons n hr
      have hbl : Bl < wr.heap.size := World.block_lt_of_cell? _ _ hcl
      have hbn : Bn < wr.heap.size := World.block_lt_of_cell? _ _ hcn
      gi_wp2_with fail
      refine ⟨trivial, rfl, callsIn_wide.2 ?_⟩
      refine (chunkFirst _ rest n _ wr hsv hr).mono ?_; rintro e w1 ⟨_, rfl, rfl, hb1⟩
      generalize cnt n 0 rest = c at *
      have Hst := keepBack hst
      clear hst
      have hcl1 := (hb1.cell (p := ⟨Bl, 0, none⟩) hbl).trans hcl
      have hcn1 := (hb1.cell (p := ⟨Bn, 0, none⟩) hbn).trans hcn
      have hs1 := hb1.size
      obtain ⟨ao2, cap2, hx1, hx2, hsc, hn2⟩ := (hsv.call hb1).cutTo aRow c c rfl (by omega)
      gi_wp2_with fail
      refine ⟨trivial, rfl, callsIn_wide.2 ?_⟩
      refine (cloneRow _ _ _ w1 hsc (by simp; omega)).mono ?_; rintro e w2 ⟨vk, rfl, hvk, hb2⟩
      have hb12 : Below wr.heap.size wr w2 := hb1.trans (hb2.mono hs1)
      have hpre : pre ++ [rest.take c] <+: chunks n L := by rw [hch.out, Hst.out]; exact ⟨chunks n (rest.drop c), by simp⟩
      obtain ⟨fn, tmps, assign, body, hy, hR⟩ := hY pre (rest.take c) vk wr w2 hj.out (grown_of_below hb12 _) hpre (hvk.mono fun k hk _ => by omega)
      have hcl2 := (hb12.cell (p := ⟨Bl, 0, none⟩) hbl).trans hcl
      have hcf2 := (hb12.frozen (p := ⟨Bl, 0, none⟩) hbl).trans hcf
      have hcn2 := (hb12.cell (p := ⟨Bn, 0, none⟩) hbn).trans hcn
      gi_wp2_with fail
      refine ⟨rfl, ?_⟩
      refine hR.mono ?_
      rintro e w3 ⟨rfl, hj3, hkp⟩
      have hcl3 := (World.cell?_of_block (hkp.block Bl b1 b3)).trans hcl2
      have hcf3 := (World.frozen?_of_block (hkp.block Bl b1 b3)).trans hcf2
      have hcn3 := (World.cell?_of_block (hkp.block Bn b2 b4)).trans hcn2
      have hs3 := (hsv.call hb12).keep (w' := w3) fun k hk _ => hkp.block k hk.1 hk.2.1
      obtain ⟨ao4, cap4, hy1, hy2, hsd, hn4⟩ := hs3.cutFrom aRow c c rfl (by omega)
      gi_wp2
      go_roundw
      case rel =>
        refine ⟨pre ++ [rest.take c], rest.drop c, _, ?_, by simp; omega, World.cell?_setCell_same _ _ _ hcl3, by rw [World.frozen?_setCell]; exact hcf3, ?_, hsd.keep fun k hk _ => Below.heap_setCell _ _ _ _ hk.2.2, hJ _ _ _ hj3 (grown_setCell _ _ _)⟩
        · exact keepBack (by rw [hch.out, Hst.out]; simp)
        · exact (World.cell?_of_block (Below.heap_setCell _ _ _ _ b5)).trans hcn3
      case measure =>
        rw [lenAt_of hcl, lenAt_of (World.cell?_setCell_same _ _ _ hcl3)]
        omega

theorem chunkAll (v : Value) (l : List Row) (n : Int) (S : Blk) (w : World) (h : Sl tRow w S v l) :
    Calls Try.prog 48 #[v, .int .i64 n] w (fun e w' => e = .returned (.func (.func 72) #[] #[.pointer (some ⟨w.heap.size, 0, none⟩), .pointer (some ⟨w.heap.size + 1, 0, none⟩)]) ∧
      (w.alloc (.cells #[v] 22)).alloc (.cells #[.int .i64 n] 3) = w') := by
  obtain ⟨ao, cap, rfl, hcap, hmax, hnil⟩ := h.shape
  go_enter Try.func48, Try.ntmps48
  go_wp2
  go_ret
  exact ⟨rfl, rfl⟩

set_option maxRecDepth 100000 in
set_option maxHeartbeats 1000000 in
theorem chunkCut (v : Value) (l : List Row) (n : Int) (S : Blk) (w : World) (h : Sl tRow w S v l) :
    Calls Try.prog 15 #[v, .int .i64 n] w (Ret w fun r w' => ∃ x, r = .tuple #[x, .int .i64 (cutL l n).2] ∧ Sl tRow.slice w' (fun k => w.heap.size ≤ k) x (cutL l n).1) := by
  by_cases he : rowsErr l = 0
  · cases hn : levB n with
    | true =>
      refine (callsIn_wide (n := 0)).1 (callsIn_of_wp_marks Try.func15 rfl trivial ?_)
      simp only [Try.ntmps15, List.size_toArray, List.length_cons, List.length_nil, Nat.reduceAdd, Nat.reduceSub, Array.replicate_succ, Array.replicate_zero, List.push_toArray, List.append_toArray, List.nil_append, List.cons_append]
      gi_wp2_with fail
      refine ⟨trivial, rfl, callsIn_wide.2 ?_⟩
      refine (rowsCheck v l S w h).mono ?_; rintro e w1 ⟨_, rfl, rfl, hb⟩
      gi_wp2_with fail
      refine ⟨trivial, rfl, callsIn_wide.2 ?_⟩
      refine (chunkLevel_of _ _ hn).mono ?_; rintro e w' ⟨rfl, rfl⟩
      gi_wp2_with fail
      refine ⟨trivial, rfl, callsIn_wide.2 ?_⟩
      have h1 := (h.call hb).call ((Below.refl _ _).alloc (Nat.le_refl _) (.cells #[.slice none 0 0] 23))
      refine (chunkAll v l n S _ h1).mono ?_; rintro e w' ⟨rfl, rfl⟩
      gi_wp2_with fail
      obtain ⟨w3, hw3⟩ : ∃ w3, (((w1.alloc (.cells #[.slice none 0 0] 23)).alloc (.cells #[v] 22)).alloc (.cells #[.int .i64 n] 3)) = w3 := ⟨_, rfl⟩
      have hz3 : w3.heap.size ≤ w1.heap.size + 3 ∧ w1.heap.size + 3 ≤ w3.heap.size := by rw [← hw3]; simp
      have hbw3 : Below w1.heap.size w1 w3 := by rw [← hw3]; exact (((Below.refl _ _).alloc (Nat.le_refl _) _).alloc (by simp) _).alloc (by simp; omega) _
      have hcb : w3.cell? ⟨w1.heap.size, 0, none⟩ = some (.slice none 0 0) := by rw [← hw3]; exact on_cell (on_cell (new_cell _ _ _) _) _
      have hfb : w3.frozen? ⟨w1.heap.size, 0, none⟩ = false := by rw [← hw3]; exact on_free (on_cell (new_cell _ _ _) _) (on_free (new_cell _ _ _) (new_free _ _ _) _) _
      have hcl : w3.cell? ⟨w1.heap.size + 1, 0, none⟩ = some v := by rw [← hw3]; exact on_cell (by simp) _
      have hfl : w3.frozen? ⟨w1.heap.size + 1, 0, none⟩ = false := by rw [← hw3]; exact on_free (x := v) (by simp) (by simp) _
      have hcn : w3.cell? ⟨w1.heap.size + 1 + 1, 0, none⟩ = some (.int .i64 n) := by rw [← hw3]; simpa using new_cell ((w1.alloc (.cells #[.slice none 0 0] 23)).alloc (.cells #[v] 22)) (.int .i64 n) 3
      rw [hw3]
      have hs3 : Sl tRow w3 (fun k => k < w1.heap.size) v l := ((h.call hb).old).keep fun k hk _ => hbw3.block k hk
      clear hw3
      have hbs := hb.size
      refine wpIn_over (Bo := w1.heap.size) rfl (enters_of Try.func72 (by kernel_rfl) rfl)
        (chunkAll1 w3 w3.heap.size w1.heap.size (w1.heap.size + 1) (w1.heap.size + 1 + 1) v l n hcl hfl hcn (by omega) (by omega) (by omega) (by omega) (by omega) (by have := (ok_rise he).1; omega) (hs3.mono fun k hk _ => by omega)) (by omega) rfl
        (fun pre W => ∃ vo, Boxed tRow.slice 22 w1.heap.size (w3.heap.size + 2) w vo pre W) ?_ ?_ ⟨_, hcb, hfb, .nil, hb.trans (hbw3.mono hbs)⟩
        (fun x => { tmps := #[v, .int .i64 n, undef, undef, .slice none 0 0, .int .i64 0, .int .i64 0, .pointer (some ⟨w1.heap.size, 0, none⟩), x, v, .int .i64 0, .int .i64 0, .bool false, undef, .int .i64 n, .bool true, .bool false, v, .int .i64 n,
          .func (.func 72) #[] #[.pointer (some ⟨w1.heap.size + 1, 0, none⟩), .pointer (some ⟨w1.heap.size + 1 + 1, 0, none⟩)], x, undef, undef, undef, undef, undef], defers := [] }) ?assign ?body ?done
      case assign =>
        intro l v W K hK
        gi_wp2
        exact hK
      case body =>
        rintro ll pre x u A W2 hll ⟨vo, hI⟩ hlA hsz hww hkk hpre hu
        have hB2 := hI.turn (r1 := w1.heap.size + 1) (r2 := ll) hsz hww hkk (by omega) (by omega) (by omega) (by omega) (by omega) (by omega)
        have hob := hI.own.block
        have hlen := hpre.length_le
        have hcl2 := chunks_length n l
        have h40 := (ok_rise he).1
        simp only [List.length_append, List.length_cons, List.length_nil] at hlen
        obtain ⟨ax, cx, rfl, _, _, _⟩ := hu.shape
        obtain ⟨ao, co, rfl, _, _⟩ := hB2.own.shape
        have hcell := hB2.cell
        have hfree := hB2.free
        have hBo : w1.heap.size < W2.heap.size := by omega
        gi_wp2_with (gi_at_builtin; refine wpListIn_grow rfl (.tmp 21) (.tmp 23) rfl aLev rfl (hB2.own.alloc _) rfl (by simp) (Src.one (cs := [_]) hu _) (by simp) ?_ (by simp; omega) (by simp; omega) ?_)
        · intro q hq _
          refine ⟨by omega, fun e => ?_⟩
          have := hob q e.symm
          omega
        intro v2 w2 hown2 hgrow2
        obtain ⟨a2, c2, hv2, _, _⟩ := hown2.shape
        rw [show (pre ++ [x]).length = pre.length + 1 by simp] at hv2
        subst hv2
        have hne : some w1.heap.size ≠ (Value.slice ao pre.length co).ownBlock := by
          intro e; have := hob _ e.symm; omega
        have hcell2 := hgrow2.cell (a := ⟨w1.heap.size, 0, none⟩) (on_cell hcell _) hne
        have hfree2 := (World.frozen?_of_block (a := ⟨w1.heap.size, 0, none⟩) (hgrow2.block _ (by simp; omega) hne)).trans (on_free hcell hfree _)
        have hown2' := hown2.keep (w' := w2.setCell ⟨w1.heap.size, 0, none⟩ (.slice a2 (pre.length + 1) c2)) fun k hk _ => Below.heap_setCell _ _ _ _ (by
          rcases hk with h | h
          · have : w3.heap.size + 2 ≤ k := h
            simp; omega
          · have := hown2.block k h; simp; omega)
        have hBl : Below w3.heap.size W2 w2 := ((Below.refl _ _).alloc (by omega) _).grown hgrow2 (by simp; omega) (fun g hg => by have := hob g hg; omega)
        have hbl : ∀ k, k < w3.heap.size + 2 → k ≠ w1.heap.size → (w2.setCell ⟨w1.heap.size, 0, none⟩ (.slice a2 (pre.length + 1) c2)).heap[k]? = W2.heap[k]? := fun k hk hk' =>
          (Below.heap_setCell _ _ _ _ hk').trans ((hgrow2.block k (by simp; omega) (by intro e; have := hob _ e.symm; omega)).trans (Below.heap_alloc _ _ _ (by omega)))
        gi_wp2
        refine ⟨⟨_, World.cell?_setCell_same _ _ _ hcell2, by rw [World.frozen?_setCell]; exact hfree2, hown2', ?_⟩, ?_, hbl ll (by omega) (by omega), hbl _ (by omega) (by omega)⟩
        · exact ((hB2.below.trans (hBl.mono (by omega))).setCell (p := ⟨w1.heap.size, 0, none⟩) (by simp; omega) _)
        · exact (KeepBut.of_below hBl).trans (.setCell (a := ⟨w1.heap.size, 0, none⟩) _)
      case done =>
        rintro W ⟨vo, hI⟩ hD
        obtain ⟨ao, co, rfl, _, _⟩ := hI.own.shape
        have hcell := hI.cell
        gi_wp2
        refine ⟨by simp, .inl ⟨_, _, rfl, run_takeDeferred hD, ?_⟩⟩
        have hc : cutL l n = (chunks n l, 0) := by rw [cutL, if_pos he, if_pos hn]
        refine ⟨_, results_tmp2 rfl _ _ _, _, rfl, ⟨_, by rw [hc]; rfl, ?_⟩, ?_⟩
        · rw [hc]
          refine ((hI.own.sl (D := fun k => w3.heap.size + 2 ≤ k) (fun _ h => h) (fun _ h => h)).keep fun k hk _ => World.putObj_heap_other (by have : w3.heap.size + 2 ≤ k := hk; omega)).mono fun k hk _ => by have : w3.heap.size + 2 ≤ k := hk; omega
        · exact hI.below.trans ⟨rfl, rfl, rfl, by simp, fun k hk => World.putObj_heap_other (by omega)⟩
      · rintro pre A B ⟨vo, hI⟩ hg
        exact ⟨vo, hI.turn (r1 := w1.heap.size + 1) (r2 := w1.heap.size + 1) hg.size ⟨hg.os, hg.tape, hg.output⟩ (fun k hk h1 _ => hg.block k hk (by simp; omega)) (by omega) (by omega) (by omega) (by omega) (by omega) (by omega)⟩
      · rintro pre A o ⟨vo, hI⟩
        exact ⟨vo, hI.turn (r1 := w3.heap.size + 1) (r2 := w3.heap.size + 1) (by simp) ⟨rfl, rfl, rfl⟩ (fun k hk h1 _ => World.putObj_heap_other h1) (by omega) (by omega) (by omega) (by omega) (by omega) (by omega)⟩
    | false =>
      go_enter Try.func15, Try.ntmps15
      go_wp2_with fail
      refine (rowsCheck v l S w h).mono ?_; rintro e w1 ⟨_, rfl, rfl, hb⟩
      go_wp2_with fail
      refine (chunkLevel_of _ _ hn).mono ?_; rintro e w' ⟨rfl, rfl⟩
      go_wp2
      go_ret2
      have hc : cutL l n = ([], 3) := by rw [cutL, if_pos he, if_neg (by simp [hn])]
      exact ⟨_, rfl, ⟨_, by rw [hc]; rfl, by rw [hc]; exact Sl.nil _ _ _⟩, hb⟩
  · have he' : (rowsErr l != 0) = true := by simp [he]
    go_enter Try.func15, Try.ntmps15
    go_wp2_with fail
    refine (rowsCheck v l S w h).mono ?_; rintro e w1 ⟨_, rfl, rfl, hb⟩
    go_wp2
    go_ret2
    have hc : cutL l n = ([], rowsErr l) := by rw [cutL, if_neg he]
    exact ⟨_, rfl, ⟨_, by rw [hc]; rfl, by rw [hc]; exact Sl.nil _ _ _⟩, hb⟩

end Go.Pch
