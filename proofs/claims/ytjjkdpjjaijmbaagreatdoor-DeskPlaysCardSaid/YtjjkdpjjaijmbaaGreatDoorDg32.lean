/- A range over a function that hands out chunks and keeps what is left in a cell of its own: the law for whoever ranges, and what it asks of the function; no program is named here. The walks of chunk.All and chunk.Cut: a range over a function. The walks of the laws' own helpers on chunks. -/
import Derived.Test.YtjjkdpjjaijmbaaGreatDoorDg2
import Derived.RangeFuncSeq
import Derived.RangeFuncRecord
import Derived.OwnWalkIn
import Derived.TacticsInMore
import Derived.LoopNIn
import Derived.LoopIn
import Derived.Shelf.Abstract
import Derived.Test.YtjjkdpjjaijmbaaGreatDoorDg13
section
namespace Go.Pch
open Go.RowKit
theorem new_cell (w : World) (x : Value) (t : TypeId) : (w.alloc (.cells #[x] t)).cell? ⟨w.heap.size, 0, none⟩ = some x := by rw [World.cell?_alloc_new]; rfl
theorem new_free (w : World) (x : Value) (t : TypeId) : (w.alloc (.cells #[x] t)).frozen? ⟨w.heap.size, 0, none⟩ = false := by rw [World.frozen?_alloc_new]
theorem on_cell {w : World} {k i : Nat} {x : Value} (h : w.cell? ⟨k, i, none⟩ = some x) (o : Obj) : (w.alloc o).cell? ⟨k, i, none⟩ = some x :=
  (World.cell?_of_block (Below.heap_alloc w o k (World.block_lt_of_cell? _ _ h))).trans h
theorem on_free {w : World} {k i : Nat} {x : Value} (h : w.cell? ⟨k, i, none⟩ = some x) (g : w.frozen? ⟨k, i, none⟩ = false) (o : Obj) : (w.alloc o).frozen? ⟨k, i, none⟩ = false :=
  (World.frozen?_of_block (Below.heap_alloc w o k (World.block_lt_of_cell? _ _ h))).trans g
structure KeepBut (N r : Nat) (A B : World) : Prop where
  os : B.os = A.os
  tape : B.tape = A.tape
  output : B.output = A.output
  size : A.heap.size ≤ B.heap.size
  block : ∀ k, k < N → k ≠ r → B.heap[k]? = A.heap[k]?
theorem KeepBut.trans {N r : Nat} {A B C : World} (h : KeepBut N r A B) (g : KeepBut N r B C) : KeepBut N r A C :=
  ⟨g.os.trans h.os, g.tape.trans h.tape, g.output.trans h.output, Nat.le_trans h.size g.size, fun k hk hr => (g.block k hk hr).trans (h.block k hk hr)⟩
theorem KeepBut.of_below {N r : Nat} {A B : World} (h : Below N A B) : KeepBut N r A B := ⟨h.os, h.tape, h.output, h.size, fun k hk _ => h.block k hk⟩
theorem KeepBut.putObj {N r : Nat} {A : World} {k : Nat} (o : Obj) (hk : N ≤ k) : KeepBut N r A (A.putObj k o) :=
  ⟨rfl, rfl, rfl, by simp, fun i hi _ => World.putObj_heap_other (by omega)⟩
theorem KeepBut.setCell {N : Nat} {A : World} {a : Addr} (v : Value) : KeepBut N a.block A (A.setCell a v) :=
  ⟨rfl, rfl, rfl, by simp, fun i _ hi => Below.heap_setCell _ _ _ _ hi⟩
def SeqRows (P : Program) (gf : FuncId) (lb : Array Value) (N0 Bo Bl : Nat) (out : List (List Row)) (w0 : World) : Prop :=
  ∀ (l : Nat) (J : List (List Row) → World → Prop) (W : World), KeepBut N0 Bo w0 W →
    (∀ pre A B, J pre A → A.grownBy B (some Bl) → J pre B) →
    (∀ pre x v A W1, J pre A → A.grownBy W1 (some Bl) → pre ++ [x] <+: out → Sl tRow W1 (fun k => A.heap.size ≤ k) v x →
      YieldAt Fence.wide 0 P l #[v] W1 fun e W' => e = .returned (.bool true) ∧ J (pre ++ [x]) W' ∧ KeepBut N0 Bo W1 W') →
    J [] W → CallsIn Fence.wide 0 P gf (#[.func (.yield l) #[] #[]] ++ lb) W fun e W' => (∃ v, e = .returned v) ∧ J out W'
def roundEnds (N0 Bo l D : Nat) (I : World → Prop) (W2 : World) : Exit → Act → World → Prop
  | .normal, _, W3 => I W3 ∧ KeepBut N0 Bo W2 W3 ∧ W3.heap[l]? = W2.heap[l]? ∧ W3.heap[D]? = W2.heap[D]?
  | _, _, _ => False
theorem wpIn_over {P : Program} {gf : FuncId} {lb : Array Value} {g : Operand} {ps : Array Tmp} {assign body : Code} {Q : Exit → Act → World → Prop} {a : Act} {w : World} {Bo Bl : Nat} {out : List (List Row)}
    (hg : a.eval g = .func (.func gf) #[] lb) (eg : ∀ args w, (callFunc gf args).run P w = .ok (.enter gf args) w) (hseq : SeqRows P gf lb w.heap.size Bo Bl out w) (hBl : Bl < w.heap.size) (hps : ps.size = 1)
    (I : List (List Row) → World → Prop) (hI : ∀ pre A B, I pre A → A.grownBy B (some Bl) → I pre B) (hI2 : ∀ pre A o, I pre A → I pre (A.putObj (w.heap.size + 1) o)) (h0 : I [] w) (a₁ : Value → Act)
    (hassign : ∀ (l : Nat) (v : Value) (W : World) (K : Act → World → Prop), K (a₁ v) W →
      assign.wpIn (Fence.wide.inRound l) 0 P (Exit.then K (fun _ _ _ => False)) { tmps := (ps.zip #[v]).foldl (fun t (p, v) => t.setIfInBounds p v) a.tmps, defers := [] } W)
    (hbody : ∀ (l : Nat) (pre : List (List Row)) (x : List Row) (v : Value) (A W2 : World), l = w.heap.size + 1 → I pre A → l < A.heap.size → A.heap.size ≤ W2.heap.size → (W2.os = A.os ∧ W2.tape = A.tape ∧ W2.output = A.output) → (∀ k, k < A.heap.size → k ≠ Bl → k ≠ l → W2.heap[k]? = A.heap[k]?) →
      pre ++ [x] <+: out → Sl tRow W2 (fun k => A.heap.size ≤ k) v x → body.wpIn (Fence.wide.inRound l) 0 P (roundEnds w.heap.size Bo l w.heap.size (I (pre ++ [x])) W2) (a₁ v) W2)
    (hdone : ∀ (W : World), I out W → W.heap[w.heap.size]? = some (.deferred (some [])) → Q .normal { a with defers := { target := .collected w.heap.size, args := #[] } :: a.defers } W) :
    (Code.rangeFunc g ps assign body).wpIn Fence.wide 0 P Q a w := by
  refine wpIn_rangeFunc ?_
  intro fn hfn
  obtain ⟨rec, hrec⟩ : ∃ rec : LoopState → Option Code → Loop, rec = fun st pe => { state := st, pending := pe, fn, tmps := a.tmps, params := ps, assign, body, defers := w.heap.size } := ⟨_, rfl⟩
  obtain ⟨W1, hW1⟩ : ∃ W1, (w.alloc (.deferred (some []))).alloc (.loop (rec .ready none)) = W1 := ⟨_, rfl⟩
  have hL1 : W1.heap[w.heap.size + 1]? = some (.loop (rec .ready none)) := by
    rw [← hW1]; have := World.alloc_heap_new (w.alloc (.deferred (some []))) (.loop (rec .ready none)); rwa [World.size_alloc] at this
  have hK1 : W1.heap[w.heap.size]? = some (.deferred (some [])) := by
    rw [← hW1]; exact (Below.heap_alloc _ _ _ (by simp)).trans (World.alloc_heap_new w _)
  have hI1 : I [] W1 := by rw [← hW1]; exact hI _ _ _ (hI _ _ _ h0 (World.grownBy_alloc _ _ _)) (World.grownBy_alloc _ _ _)
  have hb1 : Below w.heap.size w W1 := by rw [← hW1]; exact ((Below.refl _ w).alloc (Nat.le_refl _) _).alloc (by simp) _
  refine ⟨w.heap.size + 1, [{ target := .collected w.heap.size, args := #[] }], W1, { target := .fn (.func gf) lb, args := #[.func (.yield (w.heap.size + 1)) #[] #[]] }, W1, gf,
    #[.func (.yield (w.heap.size + 1)) #[] #[]] ++ lb, W1, ?_, ?_, ?_, ?_, (fun h => by cases h), ?_⟩
  · rw [← hW1, hrec]; exact run_enterLoop_outer _ _ _ _ _
  · simp only [resolve, hg]
    simp [go_sem]
  · intro f' _; trivial
  · simp [invoke, go_sem, eg]
  · refine (hseq (w.heap.size + 1) (fun pre W => I pre W ∧ W.heap[w.heap.size + 1]? = some (.loop (rec .ready none)) ∧ W.heap[w.heap.size]? = some (.deferred (some []))) W1 (.of_below hb1) ?_ ?_ ⟨hI1, hL1, hK1⟩).mono ?_
    · rintro pre A B ⟨h1, h2, h3⟩ hg'
      refine ⟨hI _ _ _ h1 hg', (hg'.block _ (Array.getElem?_eq_some_iff.1 h2).1 ?_).trans h2, (hg'.block _ (Array.getElem?_eq_some_iff.1 h3).1 ?_).trans h3⟩
      · intro e; have := Option.some.inj e; omega
      · intro e; have := Option.some.inj e; omega
    · rintro pre x v A W ⟨hi, hlA, hkA⟩ hAW hpre hv
      have hltA : w.heap.size + 1 < A.heap.size := (Array.getElem?_eq_some_iff.1 hlA).1
      have hl : W.heap[w.heap.size + 1]? = some (.loop (rec .ready none)) := (hAW.block _ hltA (by intro e; have := Option.some.inj e; omega)).trans hlA
      have hk : W.heap[w.heap.size]? = some (.deferred (some [])) := (hAW.block _ (by omega) (by intro e; have := Option.some.inj e; omega)).trans hkA
      have hlt : w.heap.size + 1 < W.heap.size := (Array.getElem?_eq_some_iff.1 hl).1
      have hy := run_yield (P := P) (args := #[v]) hl (by rw [hrec]; exact hps.symm)
      rw [hrec] at hy
      refine ⟨fn, _, assign, body, hy, roundIn_of_wpIn trivial (hassign _ v W _ ⟨_, run_beginRound hl (by rw [hrec]), ?_⟩)⟩
      have hl2 : (W.putObj (w.heap.size + 1) (.loop { rec .ready none with state := .busy })).heap[w.heap.size + 1]? = some (.loop { rec .ready none with state := .busy }) := World.putObj_heap_same hlt
      have hk2 : (W.putObj (w.heap.size + 1) (.loop { rec .ready none with state := .busy })).heap[w.heap.size]? = some (.deferred (some [])) := (World.putObj_heap_other (by omega)).trans hk
      refine wpIn_mono (hbody _ pre x v A _ rfl hi hltA (by simp; exact hAW.size) ⟨hAW.os, hAW.tape, hAW.output⟩ (fun k hk' h1 h2 => (World.putObj_heap_other h2).trans (hAW.block k hk' (by intro e; exact h1 (Option.some.inj e)))) hpre (hv.keep fun k hk' _ => World.putObj_heap_other (by omega))) ?_
      rintro e a3 W3 hp
      cases e with
      | normal =>
        obtain ⟨hi3, hkp3, hl3, hd3⟩ := hp
        have hl3' := hl3.trans hl2
        have hd3' := hd3.trans hk2
        have hr := run_endRound (P := P) none hl3'
        refine ⟨_, _, hr, rfl, ⟨hI2 _ _ _ hi3, ?_, ?_⟩, (KeepBut.trans (.putObj _ (by omega)) hkp3).trans (.putObj _ (by omega))⟩
        · rw [World.putObj_heap_same (Array.getElem?_eq_some_iff.1 hl3').1, hrec]; rfl
        · exact (World.putObj_heap_other (by omega)).trans hd3'
      | ret => exact hp.elim
      | exit id => exact hp.elim
      | goto t => exact hp.elim
      | panic ch => exact hp.elim
      | outgrown => exact hp.elim
    · rintro e W2 ⟨⟨v, rfl⟩, hi, hl, hk⟩
      have := run_endLoop (P := P) hl (by rw [hrec]; simp)
      rw [hrec] at this
      exact ⟨none, _, this, hdone _ (hI2 _ _ _ hi) ((World.putObj_heap_other (by omega)).trans hk)⟩
theorem wpListIn_grow {F : Fence} {fu : Nat} {P : Program} {α : Type} {E : Ty α} {e T : TypeId} {w : World} {B : Nat} {C D : Blk} {v : Value} {l m : List α} {ops : Array Oper} {rest : List Oper} {o : Oper} {a : Act} {Q : Exit → Act → World → Prop} (hgd : o.guard = none) (s x : Operand)
    (ho : o.op = .call { callee := .builtin .append, args := #[s, x], argTypes := #[T, T] }) (hA : At P E T e) (hs : a.eval s = v) (h : Own E e w B C v l) {ao : Option Addr} {c n : Nat} (hx : a.eval x = .slice ao n c) (hnm : n = m.length) (hsrc : Src E w D ao m) (hc : ao = none → c = 0)
    (hD : ∀ k, D k → k < w.heap.size → C k ∧ some k ≠ v.ownBlock) (hn : l.length + m.length ≤ 1000000000000) (hB : B ≤ w.heap.size)
    (hK : ∀ v' w', Own E e w' B C v' (l ++ m) → w.grownBy w' v.ownBlock → wpListIn F fu P ops Q rest (a.put o.dst v') w') : wpListIn F fu P ops Q (o :: rest) a w := by
  refine wpListIn_plain hgd fun K hK' => ?_
  subst hnm
  obtain ⟨v', w', hrun, h1, h2, _⟩ := h.run hA hsrc hc o.type hD hn hB
  unfold Oper.wpIn
  refine ⟨?_, ?_⟩
  · simp [Oper.about, ho, resolve, Target.leads, Sem.run_pure]
  · rw [Oper.semAt_plain F _ _ (by rw [ho]; intro c hc'; cases hc')]
    simp [execOp, ho, resolve, invoke, builtin, hs, hx, hrun, Result.andThen]
    exact hK' _ _ (hK v' w' h1 h2)
structure Boxed {α : Type} (E : Ty α) (e : TypeId) (Bo N1 : Nat) (w : World) (vo : Value) (pre : List α) (W : World) : Prop where
  cell : W.cell? ⟨Bo, 0, none⟩ = some vo
  free : W.frozen? ⟨Bo, 0, none⟩ = false
  own : Own E e W N1 (fun k => N1 ≤ k) vo pre
  below : Below w.heap.size w W
theorem Boxed.turn {α : Type} {E : Ty α} {e : TypeId} {Bo N1 r1 r2 : Nat} {w A B : World} {vo : Value} {pre : List α} (h : Boxed E e Bo N1 w vo pre A) (hs : A.heap.size ≤ B.heap.size) (hw : B.os = A.os ∧ B.tape = A.tape ∧ B.output = A.output)
    (hk : ∀ k, k < A.heap.size → k ≠ r1 → k ≠ r2 → B.heap[k]? = A.heap[k]?) (h1 : Bo ≠ r1) (h2 : Bo ≠ r2) (h3 : r1 < N1) (h4 : r2 < N1) (h5 : w.heap.size ≤ r1) (h6 : w.heap.size ≤ r2) : Boxed E e Bo N1 w vo pre B := by
  have hb := hk Bo (World.block_lt_of_cell? _ _ h.cell) h1 h2
  refine ⟨(World.cell?_of_block hb).trans h.cell, (World.frozen?_of_block hb).trans h.free, h.own.keep fun k hk' hlt => hk k hlt ?_ ?_, ?_⟩
  · rcases hk' with h | h'
    · have : N1 ≤ k := h
      omega
    · have := h.own.block k h'; omega
  · rcases hk' with h | h'
    · have : N1 ≤ k := h
      omega
    · have := h.own.block k h'; omega
  · exact h.below.trans ⟨hw.1, hw.2.1, hw.2.2, hs, fun k hk' => hk k (by have := h.below.size; omega) (by omega) (by omega)⟩
end Go.Pch
end

section
namespace Go.Pch
open Go.RowKit Go.Proofs
attribute [local go_sem] Oper.semAt_some
def lenAt (w : World) (b : Nat) : Nat := match w.cell? ⟨b, 0, none⟩ with
  | some (.slice _ n _) => n
  | _ => 0
theorem lenAt_of {w : World} {b : Nat} {ao : Option Addr} {n c : Nat} (h : w.cell? ⟨b, 0, none⟩ = some (.slice ao n c)) : lenAt w b = n := by rw [lenAt, h]
theorem grown_of_below {A B : World} (h : Below A.heap.size A B) (r : Option Nat) : A.grownBy B r := ⟨h.os, h.tape, h.output, h.size, fun k hk _ => h.block k hk⟩
theorem grown_setCellC (A : World) (a : Addr) (v : Value) : A.grownBy (A.setCell a v) (some a.block) :=
  ⟨rfl, rfl, rfl, by simp, fun k _ hk => Below.heap_setCell _ _ _ _ (by intro e; exact hk (by rw [e]))⟩
set_option maxRecDepth 100000 in
set_option maxHeartbeats 1000000 in
theorem chunkAll1 (w0 : World) (N0 Bo Bl Bn : Nat) (v : Value) (L : List Row) (n : Int) (hl : w0.cell? ⟨Bl, 0, none⟩ = some v) (hf : w0.frozen? ⟨Bl, 0, none⟩ = false) (hn : w0.cell? ⟨Bn, 0, none⟩ = some (.int .i64 n))
    (b1 : Bl < N0) (b2 : Bn < N0) (b3 : Bl ≠ Bo) (b4 : Bn ≠ Bo) (b5 : Bn ≠ Bl) (hL : L.length ≤ 1000000) (hs : Sl tRow w0 (fun k => k < N0 ∧ k ≠ Bo ∧ k ≠ Bl) v L) :
    SeqRows Tryz.prog 145 #[.pointer (some ⟨Bl, 0, none⟩), .pointer (some ⟨Bn, 0, none⟩)] N0 Bo Bl (chunks n L) w0 := by
  intro l J W hW hJ hY h0
  have hl0 : W.cell? ⟨Bl, 0, none⟩ = some v := (World.cell?_of_block (hW.block Bl b1 b3)).trans hl
  have hf0 : W.frozen? ⟨Bl, 0, none⟩ = false := (World.frozen?_of_block (hW.block Bl b1 b3)).trans hf
  have hn0 : W.cell? ⟨Bn, 0, none⟩ = some (.int .i64 n) := (World.cell?_of_block (hW.block Bn b2 b4)).trans hn
  have hs0 := hs.keep (w' := W) fun k hk _ => hW.block k hk.1 hk.2.1
  clear hl hf hn hs
  refine callsIn_of_wp Tryz.func145 rfl trivial ?_ rfl
  simp only [Tryz.ntmps145, List.size_toArray, List.length_cons, List.length_nil, Nat.reduceAdd, Nat.reduceSub, Array.replicate_succ, Array.replicate_zero, List.push_toArray, List.append_toArray, List.nil_append, List.cons_append]
  gi_wp2
  gi_loopw [4] (fun _ wr => ∃ (pre : List (List Row)) (rest : List Row) (vc : Value), Hid (chunks n L = pre ++ chunks n rest) ∧ rest.length ≤ 1000000 ∧ wr.cell? ⟨Bl, 0, none⟩ = some vc ∧ wr.frozen? ⟨Bl, 0, none⟩ = false ∧
      wr.cell? ⟨Bn, 0, none⟩ = some (.int .i64 n) ∧ Sl tRow wr (fun k => k < N0 ∧ k ≠ Bo ∧ k ≠ Bl) vc rest ∧ Hid (J pre wr)) (fun _ wr => lenAt wr Bl)
  case atStart => exact ⟨[], L, v, rfl, hL, hl0, hf0, hn0, hs0, h0⟩
  case round =>
    obtain ⟨pre, rest, vc, hch, hrl, hcl, hcf, hcn, hsv, hj⟩ := hrel
    obtain ⟨ao, cap, rfl, hcap, hmax, hnil⟩ := hsv.shape
    by_cases hr : rest = []
    · subst hr
      gi_wp2
      go_end0
      exact ⟨⟨_, rfl⟩, by have := hch.out; rw [chunks_nil, List.append_nil] at this; rw [this]; exact hj.out⟩
    · have hp := List.length_pos_iff.2 hr
      have hc1 := cnt_pos n hr 0
      have hc2 := cnt_le n rest 0
      have hst := chunks_cons n hr
      have hbl : Bl < wr.heap.size := World.block_lt_of_cell? _ _ hcl
      have hbn : Bn < wr.heap.size := World.block_lt_of_cell? _ _ hcn
      gi_wp2_with fail
      refine ⟨trivial, rfl, callsIn_wide.2 ?_⟩
      refine (chunkFirst _ rest n _ wr hsv hr).mono ?_; rintro e w1 ⟨_, rfl, rfl, hb1⟩
      generalize cnt n 0 rest = c at *
      have Hst := keepBack hst
      clear hst
      have hcl1 := (hb1.cell (p := ⟨Bl, 0, none⟩) hbl).trans hcl
      have hcn1 := (hb1.cell (p := ⟨Bn, 0, none⟩) hbn).trans hcn
      have hs1 := hb1.size
      obtain ⟨ao2, cap2, hx1, hx2, hsc, hn2⟩ := (hsv.call hb1).cutTo aRow c c rfl (by omega)
      gi_wp2_with fail
      refine ⟨trivial, rfl, callsIn_wide.2 ?_⟩
      refine (cloneRow _ _ _ w1 hsc (by simp; omega)).mono ?_; rintro e w2 ⟨vk, rfl, hvk, hb2⟩
      have hb12 : Below wr.heap.size wr w2 := hb1.trans (hb2.mono hs1)
      have hpre : pre ++ [rest.take c] <+: chunks n L := by rw [hch.out, Hst.out]; exact ⟨chunks n (rest.drop c), by simp⟩
      obtain ⟨fn, tmps, assign, body, hy, hR⟩ := hY pre (rest.take c) vk wr w2 hj.out (grown_of_below hb12 _) hpre (hvk.mono fun k hk _ => by omega)
      have hcl2 := (hb12.cell (p := ⟨Bl, 0, none⟩) hbl).trans hcl
      have hcf2 := (hb12.frozen (p := ⟨Bl, 0, none⟩) hbl).trans hcf
      have hcn2 := (hb12.cell (p := ⟨Bn, 0, none⟩) hbn).trans hcn
      gi_wp2_with fail
      refine ⟨rfl, ?_⟩
      refine hR.mono ?_
      rintro e w3 ⟨rfl, hj3, hkp⟩
      have hcl3 := (World.cell?_of_block (hkp.block Bl b1 b3)).trans hcl2
      have hcf3 := (World.frozen?_of_block (hkp.block Bl b1 b3)).trans hcf2
      have hcn3 := (World.cell?_of_block (hkp.block Bn b2 b4)).trans hcn2
      have hs3 := (hsv.call hb12).keep (w' := w3) fun k hk _ => hkp.block k hk.1 hk.2.1
      obtain ⟨ao4, cap4, hy1, hy2, hsd, hn4⟩ := hs3.cutFrom aRow c c rfl (by omega)
      gi_wp2
      go_roundw
      case rel =>
        refine ⟨pre ++ [rest.take c], rest.drop c, _, ?_, by simp; omega, World.cell?_setCell_same _ _ _ hcl3, by rw [World.frozen?_setCell]; exact hcf3, ?_, hsd.keep fun k hk _ => Below.heap_setCell _ _ _ _ hk.2.2, hJ _ _ _ hj3 (grown_setCellC _ _ _)⟩
        · exact keepBack (by rw [hch.out, Hst.out]; simp)
        · exact (World.cell?_of_block (Below.heap_setCell _ _ _ _ b5)).trans hcn3
      case measure =>
        rw [lenAt_of hcl, lenAt_of (World.cell?_setCell_same _ _ _ hcl3)]
        omega
theorem chunkAll (v : Value) (l : List Row) (n : Int) (S : Blk) (w : World) (h : Sl tRow w S v l) :
    Calls Tryz.prog 110 #[v, .int .i64 n] w (fun e w' => e = .returned (.func (.func 145) #[] #[.pointer (some ⟨w.heap.size, 0, none⟩), .pointer (some ⟨w.heap.size + 1, 0, none⟩)]) ∧
      (w.alloc (.cells #[v] 56)).alloc (.cells #[.int .i64 n] 3) = w') := by
  obtain ⟨ao, cap, rfl, hcap, hmax, hnil⟩ := h.shape
  go_enter Tryz.func110, Tryz.ntmps110
  go_wp2
  go_ret
  exact ⟨rfl, rfl⟩
end Go.Pch
end

section
namespace Go.Pch
open Go.RowKit Go.Proofs
end Go.Pch
end
