/- The walks of chunk.All and chunk.Cut: a range over a function. -/
import Derived.Test.YtipondhhchicjaaC4
import Derived.Test.YtipondhhchicjaaRange
namespace Go.Pch
open Go.RowKit Go.Proofs
attribute [local go_sem] Oper.semAt_some

/-- How long the slice in a cell is: for a measure. -/
def lenAt (w : World) (b : Nat) : Nat := match w.cell? ⟨b, 0, none⟩ with
  | some (.slice _ n _) => n
  | _ => 0
theorem lenAt_of {w : World} {b : Nat} {ao : Option Addr} {n c : Nat} (h : w.cell? ⟨b, 0, none⟩ = some (.slice ao n c)) : lenAt w b = n := by rw [lenAt, h]

theorem grown_of_below {A B : World} (h : Below A.heap.size A B) (r : Option Nat) : A.grownBy B r := ⟨h.os, h.tape, h.output, h.size, fun k hk _ => h.block k hk⟩
theorem grown_setCell (A : World) (a : Addr) (v : Value) : A.grownBy (A.setCell a v) (some a.block) :=
  ⟨rfl, rfl, rfl, by simp, fun k _ hk => Below.heap_setCell _ _ _ _ (by intro e; exact hk (by rw [e]))⟩

set_option maxRecDepth 100000 in
set_option maxHeartbeats 1000000 in
theorem chunkAll1 (w0 : World) (N0 Bo Bl Bn : Nat) (v : Value) (L : List Row) (n : Int) (hl : w0.cell? ⟨Bl, 0, none⟩ = some v) (hf : w0.frozen? ⟨Bl, 0, none⟩ = false) (hn : w0.cell? ⟨Bn, 0, none⟩ = some (.int .i64 n))
    (b1 : Bl < N0) (b2 : Bn < N0) (b3 : Bl ≠ Bo) (b4 : Bn ≠ Bo) (b5 : Bn ≠ Bl) (hL : L.length ≤ 1000000) (hs : Sl tRow w0 (fun k => k < N0 ∧ k ≠ Bo ∧ k ≠ Bl) v L) :
    SeqRows Try.prog 90 #[.pointer (some ⟨Bl, 0, none⟩), .pointer (some ⟨Bn, 0, none⟩)] N0 Bo Bl (chunks n L) w0 := by
  intro l J W hW hJ hY h0
  have hl0 : W.cell? ⟨Bl, 0, none⟩ = some v := (World.cell?_of_block (hW.block Bl b1 b3)).trans hl
  have hf0 : W.frozen? ⟨Bl, 0, none⟩ = false := (World.frozen?_of_block (hW.block Bl b1 b3)).trans hf
  have hn0 : W.cell? ⟨Bn, 0, none⟩ = some (.int .i64 n) := (World.cell?_of_block (hW.block Bn b2 b4)).trans hn
  have hs0 := hs.keep (w' := W) fun k hk _ => hW.block k hk.1 hk.2.1
  clear hl hf hn hs
  refine callsIn_of_wp Try.func90 rfl trivial ?_ rfl
  simp only [Try.ntmps90, List.size_toArray, List.length_cons, List.length_nil, Nat.reduceAdd, Nat.reduceSub, Array.replicate_succ, Array.replicate_zero, List.push_toArray, List.append_toArray, List.nil_append, List.cons_append]
  gi_wp2
  gi_loopw [4] (fun _ wr => ∃ (pre : List (List Row)) (rest : List Row) (vc : Value), Hid (chunks n L = pre ++ chunks n rest) ∧ rest.length ≤ 1000000 ∧ wr.cell? ⟨Bl, 0, none⟩ = some vc ∧ wr.frozen? ⟨Bl, 0, none⟩ = false ∧
      wr.cell? ⟨Bn, 0, none⟩ = some (.int .i64 n) ∧ Sl tRow wr (fun k => k < N0 ∧ k ≠ Bo ∧ k ≠ Bl) vc rest ∧ Hid (J pre wr)) (fun _ wr => lenAt wr Bl)
  case atStart => exact ⟨[], L, v, rfl, hL, hl0, hf0, hn0, hs0, h0⟩
  case round =>
    obtain ⟨pre, rest, vc, hch, hrl, hcl, hcf, hcn, hsv, hj⟩ := hrel
    obtain ⟨ao, cap, rfl, hcap, hmax, hnil⟩ := hsv.shape
    by_cases hr : rest = []
    · subst hr
      gi_wp2
      go_end0
      exact ⟨⟨_, rfl⟩, by have := hch.out; rw [chunks_nil, List.append_nil] at this; rw [this]; exact hj.out⟩
    · have hp := List.length_pos_iff.2 hr
      have hc1 := cnt_pos n hr 0
      have hc2 := cnt_le n rest 0
      have hst := chunks_cons n hr
      have hbl : Bl < wr.heap.size := World.block_lt_of_cell? _ _ hcl
      have hbn : Bn < wr.heap.size := World.block_lt_of_cell? _ _ hcn
      gi_wp2_with fail
      refine ⟨trivial, rfl, callsIn_wide.2 ?_⟩
      refine (chunkFirst _ rest n _ wr hsv hr).mono ?_; rintro e w1 ⟨_, rfl, rfl, hb1⟩
      generalize cnt n 0 rest = c at *
      have Hst := keepBack hst
      clear hst
      have hcl1 := (hb1.cell (p := ⟨Bl, 0, none⟩) hbl).trans hcl
      have hcn1 := (hb1.cell (p := ⟨Bn, 0, none⟩) hbn).trans hcn
      have hs1 := hb1.size
      obtain ⟨ao2, cap2, hx1, hx2, hsc, hn2⟩ := (hsv.call hb1).cutTo aRow c c rfl (by omega)
      gi_wp2_with fail
      refine ⟨trivial, rfl, callsIn_wide.2 ?_⟩
      refine (cloneRow _ _ _ w1 hsc (by simp; omega)).mono ?_; rintro e w2 ⟨vk, rfl, hvk, hb2⟩
      have hb12 : Below wr.heap.size wr w2 := hb1.trans (hb2.mono hs1)
      have hpre : pre ++ [rest.take c] <+: chunks n L := by rw [hch.out, Hst.out]; exact ⟨chunks n (rest.drop c), by simp⟩
      obtain ⟨fn, tmps, assign, body, hy, hR⟩ := hY pre (rest.take c) vk wr w2 hj.out (grown_of_below hb12 _) hpre (hvk.mono fun k hk _ => by omega)
      have hcl2 := (hb12.cell (p := ⟨Bl, 0, none⟩) hbl).trans hcl
      have hcf2 := (hb12.frozen (p := ⟨Bl, 0, none⟩) hbl).trans hcf
      have hcn2 := (hb12.cell (p := ⟨Bn, 0, none⟩) hbn).trans hcn
      gi_wp2_with fail
      refine ⟨rfl, ?_⟩
      refine hR.mono ?_
      rintro e w3 ⟨rfl, hj3, hkp⟩
      have hcl3 := (World.cell?_of_block (hkp.block Bl b1 b3)).trans hcl2
      have hcf3 := (World.frozen?_of_block (hkp.block Bl b1 b3)).trans hcf2
      have hcn3 := (World.cell?_of_block (hkp.block Bn b2 b4)).trans hcn2
      have hs3 := (hsv.call hb12).keep (w' := w3) fun k hk _ => hkp.block k hk.1 hk.2.1
      obtain ⟨ao4, cap4, hy1, hy2, hsd, hn4⟩ := hs3.cutFrom aRow c c rfl (by omega)
      gi_wp2
      go_roundw
      case rel =>
        refine ⟨pre ++ [rest.take c], rest.drop c, _, ?_, by simp; omega, World.cell?_setCell_same _ _ _ hcl3, by rw [World.frozen?_setCell]; exact hcf3, ?_, hsd.keep fun k hk _ => Below.heap_setCell _ _ _ _ hk.2.2, hJ _ _ _ hj3 (grown_setCell _ _ _)⟩
        · exact keepBack (by rw [hch.out, Hst.out]; simp)
        · exact (World.cell?_of_block (Below.heap_setCell _ _ _ _ b5)).trans hcn3
      case measure =>
        rw [lenAt_of hcl, lenAt_of (World.cell?_setCell_same _ _ _ hcl3)]
        omega

theorem chunkAll (v : Value) (l : List Row) (n : Int) (S : Blk) (w : World) (h : Sl tRow w S v l) :
    Calls Try.prog 75 #[v, .int .i64 n] w (fun e w' => e = .returned (.func (.func 90) #[] #[.pointer (some ⟨w.heap.size, 0, none⟩), .pointer (some ⟨w.heap.size + 1, 0, none⟩)]) ∧
      (w.alloc (.cells #[v] 22)).alloc (.cells #[.int .i64 n] 3) = w') := by
  obtain ⟨ao, cap, rfl, hcap, hmax, hnil⟩ := h.shape
  go_enter Try.func75, Try.ntmps75
  go_wp2
  go_ret
  exact ⟨rfl, rfl⟩


end Go.Pch
