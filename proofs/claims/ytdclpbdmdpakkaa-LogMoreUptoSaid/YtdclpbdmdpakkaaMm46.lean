/- What an act reads as, from data. Acts read from data of a bounded bulk. The log's contracts with their answers named. The law LogMore: the walk. -/
import Derived.Test.YtdclpbdmdpakkaaMm45
import Derived.Test.YtdclpbdmdpakkaaMm38
import Derived.ChangeArms
import Derived.Test.YtdclpbdmdpakkaaMm43
import Derived.Test.YtdclpbdmdpakkaaMm34
section
namespace Go.Pch
open Go.RowKit Go.Proofs Go.ChangeShapes Go.WideShapes

theorem four_of_map {α β : Type} {f : α → β} {l : List α} {x y z u : β} (h : l.map f = [x, y, z, u]) : ∃ a b c d, l = [a, b, c, d] ∧ f a = x ∧ f b = y ∧ f c = z ∧ f d = u := by
  match l, h with
  | [a, b, c, d], h => simp at h; exact ⟨a, b, c, d, rfl, h.1, h.2.1, h.2.2.1, h.2.2.2⟩
theorem agg_of_four {v a b c d : Value} (h : v.cells.toList = [a, b, c, d]) : v = .agg #[a, b, c, d] := by
  cases v with
  | agg cs => simp only [Value.cells] at h; rw [← h]
  | _ => simp [Value.cells] at h
theorem actFields : (Try.prog.fieldsOf 46).toList.map (fun f => (f.type, f.offset, f.name)) = [(3, 0, "Kind"), (9, 1, "One"), (9, 2, "Two"), (26, 3, "Changes")] := by kernel_rfl
theorem actStruct : Try.prog.underlying 46 = some (.struct (Try.prog.fieldsOf 46)) := by kernel_rfl
/-- An act, in cells. -/
def ActCells (w : World) (S : Blk) (cs : List Value) (x : Act) : Prop := ∃ vd, cs = [.int .i64 x.1, .string x.2.1, .string x.2.2.1, vd] ∧ i64ok x.1 ∧ x.2.1.size ≤ maxLen ∧ x.2.2.1.size ≤ maxLen ∧ Sl tChange w S vd x.2.2.2
theorem openFour {P : Program} {t : TypeId} {f0 f1 f2 f3 : Field} (ht : P.underlying t = some (.struct #[f0, f1, f2, f3])) (hc : P.cellsOf t = 4) (o0 : f0.offset = 0) (o1 : f1.offset = 1) (o2 : f2.offset = 2) (o3 : f3.offset = 3) (c0 : P.cellsOf f0.type = 1) (c1 : P.cellsOf f1.type = 1) (c2 : P.cellsOf f2.type = 1) (c3 : P.cellsOf f3.type = 1)
    (t0 : P.underlying f0.type = some (.int .i64)) (t1 : P.underlying f1.type = some .string) (t2 : P.underlying f2.type = some .string) (t3 : Opens P tChange.slice f3.type)
    (H : Type) (enc : TypeId × Value → H) (w : World) (base : Nat) (spare : Nat → Bool) (held : Bool) (fuel : Nat) (cs : List Value) (x : DataW H × List MemPlace)
    (h : DataW.trod enc P w base spare held fuel t cs = some x) : ∃ a, ActCells w (fun _ => True) cs a := by
  obtain ⟨xs, n, _, rfl, hl, hlen, hf⟩ := DataW.trod_struct ht h
  match xs, hlen with
  | [y0, y1, y2, y3], _ =>
    have g0 := hf 0 f0 rfl
    have g1 := hf 1 f1 rfl
    have g2 := hf 2 f2 rfl
    have g3 := hf 3 f3 rfl
    rw [hc] at hl
    match cs, hl with
    | [a, b, c, d], _ =>
      simp only [o0, o1, o2, o3, c0, c1, c2, c3, List.drop_zero, List.take_succ_cons, List.take_zero, List.drop_succ_cons] at g0 g1 g2 g3
      obtain ⟨k, q0, _, w0⟩ := DataW.trod_int t0 g0
      obtain ⟨s, q1, _, w1⟩ := DataW.trod_string t1 g1
      obtain ⟨u, q2, _, w2⟩ := DataW.trod_string t2 g2
      obtain ⟨l, hd⟩ := t3 H enc w base spare held _ _ _ g3
      simp at q0 q1 q2
      subst q0 q1 q2
      obtain ⟨a3, n3, c3, hv, r3⟩ := hd
      simp at hv
      subst hv
      exact ⟨(k, s, u, l), _, rfl, i64ok_of_wf w0, w1, w2, a3, n3, c3, rfl, r3⟩
theorem opAct (H : Type) (enc : TypeId × Value → H) (w : World) (base : Nat) (spare : Nat → Bool) (held : Bool) (fuel : Nat) (cs : List Value) (x : DataW H × List MemPlace)
    (h : DataW.trod enc Try.prog w base spare held fuel 46 cs = some x) : ∃ a, ActCells w (fun _ => True) cs a := by
  obtain ⟨f0, f1, f2, f3, e0, h0, h1, h2, h3⟩ := four_of_map actFields
  simp only [Prod.mk.injEq] at h0 h1 h2 h3
  have e : Try.prog.fieldsOf 46 = #[f0, f1, f2, f3] := by rw [← Array.toList_inj, e0]
  exact openFour (by rw [actStruct, e]) (by kernel_rfl) h0.2.1 h1.2.1 h2.2.1 h3.2.1 (by rw [h0.1]; kernel_rfl) (by rw [h1.1]; kernel_rfl) (by rw [h2.1]; kernel_rfl) (by rw [h3.1]; kernel_rfl)
    (by rw [h0.1]; exact Try.underlying3) (by rw [h1.1]; exact Try.underlying9) (by rw [h2.1]; exact Try.underlying9) (by rw [h3.1]; exact opChanges) H enc w base spare held fuel cs x h
theorem act_of_open {w : World} {S : Blk} {v : Value} {x : Act} (h : ActCells w S v.cells.toList x) : AtAct w S v x := by
  obtain ⟨vd, hv, _, _, _, hd⟩ := h
  exact ⟨vd, agg_of_four hv, hd⟩

end Go.Pch
end

section
namespace Go.Pch
open Go.RowKit Go.Proofs Go.ChangeShapes Go.WideShapes
open Go.Proofs.Ytdclpbdmdpakkaa.Rows (uptoBulk uptoBulkAll uptoSmall)

/-- How much an act is. -/
def actM (x : Act) : Nat := x.2.1.size + x.2.2.1.size + x.2.2.2.length
/-- An act that is not too large for a machine. -/
def ActSmall (x : Act) : Prop := i64ok x.1 ∧ x.2.1.size ≤ 10000000 ∧ x.2.2.1.size ≤ 10000000 ∧ x.2.2.2.length ≤ 10000000
theorem openFourM {P : Program} {t : TypeId} {f0 f1 f2 f3 : Field} (ht : P.underlying t = some (.struct #[f0, f1, f2, f3])) (hc : P.cellsOf t = 4) (o0 : f0.offset = 0) (o1 : f1.offset = 1) (o2 : f2.offset = 2) (o3 : f3.offset = 3) (c0 : P.cellsOf f0.type = 1) (c1 : P.cellsOf f1.type = 1) (c2 : P.cellsOf f2.type = 1) (c3 : P.cellsOf f3.type = 1)
    (t0 : P.underlying f0.type = some (.int .i64)) (t1 : P.underlying f1.type = some .string) (t2 : P.underlying f2.type = some .string) (t3 : OpensM P tChange.slice (sumM fun _ => 1) f3.type)
    (H : Type) (enc : TypeId × Value → H) (w : World) (base : Nat) (spare : Nat → Bool) (held : Bool) (fuel : Nat) (cs : List Value) (x : DataW H × List MemPlace)
    (h : DataW.trod enc P w base spare held fuel t cs = some x) : ∃ a, ActCells w (fun _ => True) cs a ∧ actM a ≤ uptoBulk x.1 := by
  obtain ⟨xs, n, _, rfl, hl, hlen, hf⟩ := DataW.trod_struct ht h
  match xs, hlen with
  | [y0, y1, y2, y3], _ =>
    have g0 := hf 0 f0 rfl
    have g1 := hf 1 f1 rfl
    have g2 := hf 2 f2 rfl
    have g3 := hf 3 f3 rfl
    rw [hc] at hl
    match cs, hl with
    | [a, b, c, d], _ =>
      simp only [o0, o1, o2, o3, c0, c1, c2, c3, List.drop_zero, List.take_succ_cons, List.take_zero, List.drop_succ_cons] at g0 g1 g2 g3
      obtain ⟨k, q0, _, w0⟩ := DataW.trod_int t0 g0
      obtain ⟨s, q1, e1, w1⟩ := DataW.trod_string t1 g1
      obtain ⟨u, q2, e2, w2⟩ := DataW.trod_string t2 g2
      obtain ⟨l, hd, hm⟩ := t3 H enc w base spare held _ _ _ g3
      simp at q0 q1 q2
      subst q0 q1 q2
      obtain ⟨a3, n3, c3, hv, r3⟩ := hd
      simp at hv
      subst hv
      refine ⟨(k, s, u, l), ⟨_, rfl, i64ok_of_wf w0, w1, w2, a3, n3, c3, rfl, r3⟩, ?_⟩
      rw [sumM_len] at hm
      have l1 : s.data.toList.length = s.size := Array.length_toList
      have l2 : u.data.toList.length = u.size := Array.length_toList
      subst e1 e2
      simp only [uptoBulk, uptoBulkAll, List.map_cons, List.map_nil, actM, l1, l2]
      omega
theorem opChangesM : OpensM Try.prog tChange.slice (sumM fun _ => 1) 26 := (opChange.one).slice Try.underlying26 (by kernel_rfl)
theorem opActM (H : Type) (enc : TypeId × Value → H) (w : World) (base : Nat) (spare : Nat → Bool) (held : Bool) (fuel : Nat) (cs : List Value) (x : DataW H × List MemPlace)
    (h : DataW.trod enc Try.prog w base spare held fuel 46 cs = some x) : ∃ a, ActCells w (fun _ => True) cs a ∧ actM a ≤ uptoBulk x.1 := by
  obtain ⟨f0, f1, f2, f3, e0, h0, h1, h2, h3⟩ := four_of_map actFields
  simp only [Prod.mk.injEq] at h0 h1 h2 h3
  have e : Try.prog.fieldsOf 46 = #[f0, f1, f2, f3] := by rw [← Array.toList_inj, e0]
  exact openFourM (by rw [actStruct, e]) (by kernel_rfl) h0.2.1 h1.2.1 h2.2.1 h3.2.1 (by rw [h0.1]; kernel_rfl) (by rw [h1.1]; kernel_rfl) (by rw [h2.1]; kernel_rfl) (by rw [h3.1]; kernel_rfl)
    (by rw [h0.1]; exact Try.underlying3) (by rw [h1.1]; exact Try.underlying9) (by rw [h2.1]; exact Try.underlying9) (by rw [h3.1]; exact opChangesM) H enc w base spare held fuel cs x h
theorem actSmall_of {w : World} {S : Blk} {cs : List Value} {x : Act} (h : ActCells w S cs x) (z : actM x ≤ 1048576) : ActSmall x := by
  obtain ⟨_, _, h1, _⟩ := h
  unfold actM at z
  exact ⟨h1, by omega, by omega, by omega⟩
theorem act_small {H : Type} {a : Act} {d : DataW H} {l : List (DataW H)} (hk : uptoSmall H l = true) (hd : d ∈ l) (hm : actM a ≤ uptoBulk d) : actM a ≤ 1048576 :=
  Nat.le_trans hm (Nat.le_trans (bulk_part hd) (bulk_bound hk))
theorem opActE : OpensM Try.prog tAct actM 46 := fun H enc w base spare held fuel cs x h => opActM H enc w base spare held fuel cs x h
theorem opActsM : OpensM Try.prog tAct.slice (sumM actM) 59 := opActE.slice Try.underlying59 (by kernel_rfl)
theorem acts_small {H : Type} {a : List Act} {d : DataW H} {l : List (DataW H)} (hk : uptoSmall H l = true) (hd : d ∈ l) (hm : sumM actM a ≤ uptoBulk d) : sumM actM a ≤ 1048576 :=
  Nat.le_trans hm (Nat.le_trans (bulk_part hd) (bulk_bound hk))
theorem sumM_mem {α : Type} {m : α → Nat} {x : α} : ∀ {l : List α}, x ∈ l → m x ≤ sumM m l
  | a :: l, h => by
    have e : sumM m (a :: l) = m a + sumM m l := by simp [sumM]
    rcases List.mem_cons.1 h with rfl | h
    · omega
    · have := sumM_mem (m := m) h
      omega
theorem actsSmall_of {w : World} {S : Blk} {v : Value} {l : List Act} (h : Sl tAct w S v l) (z : sumM actM l ≤ 1048576) : ∀ x ∈ l, ActSmall x := by
  intro x hx
  obtain ⟨n, hn⟩ := List.mem_iff_getElem?.1 hx
  obtain ⟨_, _, rfl, _, _, _⟩ := h.shape
  obtain ⟨b, o, cs, _, _, _, hrd, _⟩ := h.get n x hn
  exact actSmall_of hrd (Nat.le_trans (sumM_mem hx) z)

end Go.Pch
end

section
namespace Go.Pch
open Go.RowKit Go.Proofs
set_option maxRecDepth 100000

/-- Contracts with the answers named. -/
theorem logRecover_is {R : Repo} {N E : Int} (t : Bytes) (w : World) (ht : t.length ≤ maxLen) (h : recP t = (R, N, E)) : Calls Try.prog 24 #[.string (bl t)] w (Ret w fun y W => ∃ a1 n1 c1 a2 n2 c2, y = .tuple #[.agg #[.slice a1 n1 c1, .slice a2 n2 c2], .int .i64 N, .int .i64 E] ∧ Rp W (fun k => w.heap.size ≤ k) (.agg #[.slice a1 n1 c1, .slice a2 n2 c2]) R) := by
  refine (logRecover t w ht).mono ?_
  rintro e W ⟨_, rfl, ⟨v, rfl, hv⟩, b⟩
  rw [h] at hv
  rw [h]
  obtain ⟨x, y, rfl, hx, hy⟩ := hv
  obtain ⟨a1, c1, rfl, _, _, _⟩ := hx.shape
  obtain ⟨a2, c2, rfl, _, _, _⟩ := hy.shape
  exact ⟨_, rfl, ⟨_, _, _, _, _, _, rfl, _, _, rfl, hx, hy⟩, b⟩
theorem logReplay_is {L : List Act} {N E : Int} (t : Bytes) (w : World) (ht : t.length ≤ maxLen) (h : replayP t = (L, N, E)) : Calls Try.prog 26 #[.string (bl t)] w (Ret w fun y W => ∃ a c, y = .tuple #[.slice a L.length c, .int .i64 N, .int .i64 E] ∧ Sl tAct W (fun k => w.heap.size ≤ k) (.slice a L.length c) L) := by
  refine (logReplay t w ht).mono ?_
  rintro e W ⟨_, rfl, ⟨v, rfl, hv⟩, b⟩
  rw [h] at hv
  rw [h]
  obtain ⟨a, c, rfl, _, _, _⟩ := hv.shape
  exact ⟨_, rfl, ⟨_, _, rfl, hv⟩, b⟩
theorem logWrite_is {B : Bytes} {F : Int} (u : Value) (x : Act) (S : Blk) (w : World) (g : AtAct w S u x) (hz : ActSmall x) (h : actWP x = (B, F)) : Calls Try.prog 25 #[u] w (Ret w fun y _ => y = .tuple #[.string (bl B), .int .i64 F]) := by
  have := logWrite u x S w g hz.1 hz.2.1 hz.2.2.1 hz.2.2.2
  rwa [h] at this
theorem logDo_is {R : Repo} {I : Int} (v u : Value) (r : Repo) (x : Act) (S S' : Blk) (w : World) (h : Rp w S v r) (g : AtAct w S' u x) (hc : doP r x = (R, I)) :
    Calls Try.prog 20 #[v, u] w (Ret w fun y W => ∃ a1 n1 c1 a2 n2 c2, y = .tuple #[.agg #[.slice a1 n1 c1, .slice a2 n2 c2], .int .i64 I] ∧ Rp W (fun k => w.heap.size ≤ k) (.agg #[.slice a1 n1 c1, .slice a2 n2 c2]) R) := by
  refine (logDo v u r x S S' w h g).mono ?_
  rintro e W ⟨_, rfl, ⟨y, rfl, hy⟩, b⟩
  rw [hc] at hy
  rw [hc]
  obtain ⟨x, y, rfl, hx, hy⟩ := hy
  obtain ⟨a1, c1, rfl, _, _, _⟩ := hx.shape
  obtain ⟨a2, c2, rfl, _, _, _⟩ := hy.shape
  exact ⟨_, rfl, ⟨_, _, _, _, _, _, rfl, _, _, rfl, hx, hy⟩, b⟩
/-- An act in its box. -/
structure ActBox (w : World) (g : Nat) (k : Int) (a b : ByteArray) (vd : Value) : Prop where
  row : w.heap[g]? = some (.cells #[.int .i64 k, .string a, .string b, vd] 46)
theorem ActBox.call {w w' : World} {g : Nat} {k : Int} {a b : ByteArray} {vd : Value} (h : ActBox w g k a b vd) (hb : Below w.heap.size w w') : ActBox w' g k a b vd := ⟨(hb.block g (Array.getElem?_eq_some_iff.1 h.row).1).trans h.row⟩
theorem ActBox.cells {w : World} {g : Nat} {k : Int} {a b : ByteArray} {vd : Value} (h : ActBox w g k a b vd) : w.cell? ⟨g, 0, none⟩ = some (.int .i64 k) ∧ w.cell? ⟨g, 1, none⟩ = some (.string a) ∧ w.cell? ⟨g, 2, none⟩ = some (.string b) ∧ w.cell? ⟨g, 3, none⟩ = some vd :=
  ⟨by rw [World.cell?, h.row]; rfl, by rw [World.cell?, h.row]; rfl, by rw [World.cell?, h.row]; rfl, by rw [World.cell?, h.row]; rfl⟩
theorem Rp.held {w : World} {S : Blk} {v : Value} {r : Repo} (h : Rp w S v r) : Rp w (fun k => k < w.heap.size) v r := by
  obtain ⟨x, y, hv, hx, hy⟩ := h
  exact ⟨x, y, hv, hx.old, hy.old⟩

theorem actBy_len {x : Act} (h : actBad x = false) : (actBy x).length ≤ 2000 := by
  simp only [actBad, Bool.or_eq_false_iff] at h
  have h2 := out1 h.1.1.1.2
  have h3 := out1 h.1.1.2
  have h4 := out1 h.1.2
  have e1 : x.2.1.data.toList.length = x.2.1.size := Array.length_toList
  have e2 : x.2.2.1.data.toList.length = x.2.2.1.size := Array.length_toList
  have e3 : ∀ l : List Change, (l.flatMap chgBy).length = 5 * l.length := by
    intro l
    induction l with
    | nil => rfl
    | cons a l ih => rw [List.flatMap_cons, List.length_append, ih]; simp [chgBy, enc1, enc2]; omega
  rw [actBy]
  simp only [List.length_append, e1, e2, e3, enc1, List.length_cons, List.length_nil]
  omega

end Go.Pch
end

section
namespace Go.Pch
open Go.RowKit Go.Proofs
set_option maxRecDepth 100000

theorem more_facts {t B : Bytes} {R : Repo} {N M G : Int} {L : List Act} {x : Act} (hR : recP t = (R, N, 0)) (hP : replayP t = (L, M, G)) (hW : actWP x = (B, 0)) :
    t.length ≤ 4096 ∧ R = doneP L ∧ N = L.length ∧ G = 0 ∧ actBad x = false ∧ B = actBy x ∧ L = (replayF 60 t).1 ∧ (M = (t.length : Int) → (replayF 60 t).2 = []) := by
  have hb : ¬ 4096 < t.length := fun hb => by rw [recP, if_pos hb] at hR; simp at hR
  rw [recP, if_neg hb] at hR
  rw [replayP, if_neg hb] at hP
  simp only [Prod.mk.injEq] at hR hP
  obtain ⟨rfl, rfl, _⟩ := hR
  obtain ⟨rfl, rfl, rfl⟩ := hP
  have hx : actBad x = false := by
    cases hx : actBad x with
    | false => rfl
    | true => rw [actWP, if_pos hx] at hW; simp at hW
  rw [actWP, if_neg (by rw [hx]; decide)] at hW
  simp only [Prod.mk.injEq, and_true] at hW
  refine ⟨by omega, rfl, rfl, rfl, hx, hW.symm, rfl, fun h => ?_⟩
  exact List.eq_nil_of_length_eq_zero (by omega)
theorem wrapSum (a b : Nat) (ha : a ≤ 4096) (hb : b ≤ 2000) : wrap64 ((a : Int) + (b : Int)) = (a : Int) + (b : Int) := by unfold wrap64; omega
theorem rec_more {t : Bytes} {x : Act} (h0 : (replayF 60 t).2 = []) (h1 : (replayF 60 t).1.length < 60) (hx : actBad x = false) (hl : t.length + (actBy x).length ≤ 4096) : recP (t ++ actBy x) = (stepP (doneP (replayF 60 t).1) x, ((replayF 60 t).1.length : Int) + 1, 0) := by
  rw [recP, if_neg (by rw [List.length_append]; omega), replay_one h0 h1 hx, doneP_snoc]
  simp

set_option maxHeartbeats 1000000 in
theorem lawLogMore (s : ByteArray) (u : Value) (x : Act) (w : World) (hs : s.size ≤ maxLen) (g : AtAct w (fun _ => True) u x) (hz : ActSmall x) : Calls Try.prog 8 #[.string s, u] w (Ret w fun y _ => y = .bool true) := by
  obtain ⟨t, ht⟩ : ∃ t, t = s.data.toList := ⟨_, rfl⟩
  obtain rfl : s = bl t := by rw [ht, bl_data]
  clear ht
  rw [bl_size] at hs
  have tsz := bl_size t
  obtain ⟨R, N, E, hR⟩ : ∃ R N E, recP t = (R, N, E) := ⟨_, _, _, rfl⟩
  obtain ⟨B, F, hW⟩ : ∃ B F, actWP x = (B, F) := ⟨_, _, rfl⟩
  obtain ⟨L, M, G, hP⟩ : ∃ L M G, replayP t = (L, M, G) := ⟨_, _, _, rfl⟩
  have bsz := bl_size B
  have HR := keepBack hR
  have HW := keepBack hW
  have HP := keepBack hP
  clear hR hW hP
  have hzz := hz
  obtain ⟨k, a, b, d⟩ := x
  obtain ⟨vd, rfl, hd⟩ := g
  obtain ⟨ad, cd, hvd, _, _, _⟩ := hd.shape
  simp only at hvd hd
  generalize d.length = nd at hvd
  subst hvd
  simp only
  obtain ⟨xA, hxA⟩ : ∃ xA, xA = w.alloc (.cells #[.int .i64 k, .string a, .string b, .slice ad nd cd] 46) := ⟨_, rfl⟩
  have bA : Below w.heap.size w xA := by rw [hxA]; exact (Below.refl _ _).alloc (Nat.le_refl _) _
  have X0 : ActBox xA w.heap.size k a b (.slice ad nd cd) := by rw [hxA]; exact ⟨heap_alloc_new _ _⟩
  have HA := keepBack hxA
  clear hxA
  have zA := bA.size
  go_enter Try.func8, Try.ntmps8
  go_wp2_with fail
  rw [← HA.out]
  refine (logRecover_is t xA hs HR.out).mono ?_; rintro e w1 ⟨_, rfl, ⟨a1, n1, c1, a2, n2, c2, rfl, hr1⟩, b1⟩
  have low1 := bA.trans (b1.mono zA)
  obtain ⟨x1, hx1⟩ : ∃ x, x = w1.alloc (.cells #[.slice a1 n1 c1, .slice a2 n2 c2] 25) := ⟨_, rfl⟩
  have bB : Below w1.heap.size w1 x1 := by rw [hx1]; exact (Below.refl _ _).alloc (Nat.le_refl _) _
  have S1 : BoxRow x1 w1.heap.size (.slice a1 n1 c1) (.slice a2 n2 c2) := by rw [hx1]; exact ⟨heap_alloc_new _ _⟩
  have X1 := (X0.call b1).call bB
  have low1b := low1.trans (bB.mono low1.size)
  have z1b := low1b.size
  have hr1b := hr1.held.call bB
  obtain ⟨m0, m1, m2, m3⟩ := X1.cells
  rw [hx1] at m0 m1 m2 m3
  have H1 := keepBack hx1
  clear hx1
  go_wp2_with fail
  rw [← H1.out]
  clear m0 m1 m2 m3
  refine (logWrite_is _ (k, a, b, d) _ x1 ⟨_, rfl, hd.call low1b⟩ hzz HW.out).mono ?_; rintro e w2 ⟨_, rfl, rfl, b2⟩
  have low2 := low1b.trans (b2.mono z1b)
  have z2 := low2.size
  go_wp2_with fail
  refine (logReplay_is t w2 hs HP.out).mono ?_; rintro e w3 ⟨_, rfl, ⟨a3, c3, rfl, _⟩, b3⟩
  have low3 := low2.trans (b3.mono z2)
  have z3 := low3.size
  obtain ⟨nl, hnl⟩ : ∃ n, n = L.length := ⟨_, rfl⟩
  rw [← hnl]
  have HNL := keepBack hnl
  clear hnl
  by_cases hE : E = 0
  · subst hE
    by_cases hF : F = 0
    · subst hF
      have HFT := more_facts HR.out HP.out HW.out
      obtain ⟨ht4, hRe, hNe, hGe, hx, hBe, hLr, hMr⟩ := HFT
      have HLR := keepBack hLr
      have HX := keepBack hx
      have HMR := keepBack hMr
      clear hLr hMr
      rw [← HNL.out] at hNe
      subst hRe hNe hGe
      have hB2 := actBy_len hx
      rw [← hBe] at hB2
      have HBe := keepBack hBe
      clear hBe hx
      have ht4I : (t.length : Int) ≤ 4096 := by omega
      have hB2I : (B.length : Int) ≤ 2000 := by omega
      by_cases hM : M = (t.length : Int)
      · have HM0 := keepBack (HMR.out hM)
        subst hM
        by_cases h60 : nl < 60
        · have h60I : (nl : Int) < 60 := by omega
          by_cases hsum : (t.length : Int) + (B.length : Int) ≤ 4096
          · have HR2 := rec_more (x := (k, a, b, d)) HM0.out (by rw [← HLR.out]; have := HNL.out; omega) HX.out (by rw [← HBe.out]; omega)
            rw [← HLR.out, ← HNL.out, ← HBe.out] at HR2
            replace HR2 := keepBack HR2
            have hlen : (t ++ B).length ≤ maxLen := by unfold maxLen; rw [List.length_append]; omega
            go_wp2_with fail
            rw [bl_app]
            refine (logRecover_is _ w3 hlen HR2.out).mono ?_; rintro e w4 ⟨_, rfl, ⟨a5, n5, c5, a6, n6, c6, rfl, hr4⟩, b4⟩
            have low4 := low3.trans (b4.mono z3)
            have z4 := low4.size
            obtain ⟨x4, hx4⟩ : ∃ x, x = w4.alloc (.cells #[.slice a5 n5 c5, .slice a6 n6 c6] 25) := ⟨_, rfl⟩
            have bD : Below w4.heap.size w4 x4 := by rw [hx4]; exact (Below.refl _ _).alloc (Nat.le_refl _) _
            have U4 : BoxRow x4 w4.heap.size (.slice a5 n5 c5) (.slice a6 n6 c6) := by rw [hx4]; exact ⟨heap_alloc_new _ _⟩
            have S4 := (((S1.call b2).call b3).call b4).call bD
            have X4 := (((X1.call b2).call b3).call b4).call bD
            have hs4 := (((hr1b.call b2).call b3).call b4).call bD
            have hu4 := hr4.held.call bD
            have low4b := low4.trans (bD.mono z4)
            have z4b := low4b.size
            obtain ⟨m0, m1, m2, m3⟩ := X4.cells
            have q0 := S4.cell0
            have q1 := S4.cell1
            rw [hx4] at m0 m1 m2 m3 q0 q1
            have H4 := keepBack hx4
            clear hx4
            go_wp2_with fail
            rw [← H4.out]
            clear m0 m1 m2 m3 q0 q1
            obtain ⟨W', I, hD⟩ : ∃ W' I, doP (doneP L) (k, a, b, d) = (W', I) := ⟨_, _, rfl⟩
            have HD := keepBack hD
            clear hD
            refine (logDo_is _ _ (doneP L) (k, a, b, d) _ _ x4 hs4 ⟨_, rfl, hd.call low4b⟩ HD.out).mono ?_; rintro e w5 ⟨_, rfl, ⟨a7, n7, c7, a8, n8, c8, rfl, hr5⟩, b5⟩
            have low5 := low4b.trans (b5.mono z4b)
            have z5 := low5.size
            by_cases hI : I = 0
            · subst hI
              have hst : stepP (doneP L) (k, a, b, d) = W' := by rw [stepP, HD.out]; rfl
              have HST := keepBack hst
              clear hst
              obtain ⟨x5, hx5⟩ : ∃ x, x = w5.alloc (.cells #[.slice a7 n7 c7, .slice a8 n8 c8] 25) := ⟨_, rfl⟩
              have bE : Below w5.heap.size w5 x5 := by rw [hx5]; exact (Below.refl _ _).alloc (Nat.le_refl _) _
              have V5 : BoxRow x5 w5.heap.size (.slice a7 n7 c7) (.slice a8 n8 c8) := by rw [hx5]; exact ⟨heap_alloc_new _ _⟩
              have U5 := (U4.call b5).call bE
              have hu5 := (hu4.call b5).call bE
              have hv5 := hr5.call bE
              have low5b := low5.trans (bE.mono z5)
              have H5 := keepBack hx5
              clear hx5
              go_wp2_with fail
              rw [← H5.out]
              refine (logBegun _).mono ?_; rintro e w6 ⟨_, rfl, rfl, b6⟩
              have low6 := low5b.trans (b6.mono low5b.size)
              have q0 := (U5.call b6).cell0
              have q1 := (U5.call b6).cell1
              have q2 := (V5.call b6).cell0
              have q3 := (V5.call b6).cell1
              go_wp2_with fail
              have hu6 := hu5.call b6
              rw [HST.out] at hu6
              refine (refSameRepos _ _ W' W' _ _ w6 hu6 (hv5.call b6)).mono ?_; rintro e w7 ⟨_, rfl, rfl, b7⟩
              rw [decide_eq_true rfl, decide_eq_true rfl]
              go_wp2
              go_ret
              exact ⟨_, rfl, rfl, low6.trans (b7.mono low6.size)⟩
            · have hst : stepP (doneP L) (k, a, b, d) = doneP L := by rw [stepP, HD.out]; exact if_neg hI
              have HST := keepBack hst
              clear hst
              obtain ⟨x5, hx5⟩ : ∃ x, x = w5.alloc (.cells #[.slice a1 n1 c1, .slice a2 n2 c2] 25) := ⟨_, rfl⟩
              have bE : Below w5.heap.size w5 x5 := by rw [hx5]; exact (Below.refl _ _).alloc (Nat.le_refl _) _
              have V5 : BoxRow x5 w5.heap.size (.slice a1 n1 c1) (.slice a2 n2 c2) := by rw [hx5]; exact ⟨heap_alloc_new _ _⟩
              have U5 := (U4.call b5).call bE
              have hu5 := (hu4.call b5).call bE
              have hv5 := (hs4.call b5).call bE
              have low5b := low5.trans (bE.mono z5)
              have H5 := keepBack hx5
              clear hx5
              have bF := (Below.refl w5.heap.size w5).alloc (Nat.le_refl _) (.cells #[.slice a7 n7 c7, .slice a8 n8 c8] 25)
              have S5 := (S4.call b5).call bF
              have q0 := S5.cell0
              have q1 := S5.cell1
              go_wp2_with fail
              rw [← H5.out]
              clear q0 q1
              refine (logBegun _).mono ?_; rintro e w6 ⟨_, rfl, rfl, b6⟩
              have low6 := low5b.trans (b6.mono low5b.size)
              have q0 := (U5.call b6).cell0
              have q1 := (U5.call b6).cell1
              have q2 := (V5.call b6).cell0
              have q3 := (V5.call b6).cell1
              go_wp2_with fail
              have hu6 := hu5.call b6
              rw [HST.out] at hu6
              refine (refSameRepos _ _ (doneP L) (doneP L) _ _ w6 hu6 (hv5.call b6)).mono ?_; rintro e w7 ⟨_, rfl, rfl, b7⟩
              rw [decide_eq_true rfl, decide_eq_true rfl]
              go_wp2
              go_ret
              exact ⟨_, rfl, rfl, low6.trans (b7.mono low6.size)⟩
          · go_wp2_with fail
            refine (logBegun _).mono ?_; rintro e w4 ⟨_, rfl, rfl, b4⟩
            go_wp2
            go_ret
            exact ⟨_, rfl, rfl, low3.trans (b4.mono z3)⟩
        · have h60I : (60 : Int) ≤ nl := by omega
          go_wp2_with fail
          refine (logBegun _).mono ?_; rintro e w4 ⟨_, rfl, rfl, b4⟩
          go_wp2
          go_ret
          exact ⟨_, rfl, rfl, low3.trans (b4.mono z3)⟩
      · go_wp2_with fail
        refine (logBegun _).mono ?_; rintro e w4 ⟨_, rfl, rfl, b4⟩
        go_wp2
        go_ret
        exact ⟨_, rfl, rfl, low3.trans (b4.mono z3)⟩
    · go_wp2_with fail
      refine (logBegun _).mono ?_; rintro e w4 ⟨_, rfl, rfl, b4⟩
      go_wp2
      go_ret
      exact ⟨_, rfl, rfl, low3.trans (b4.mono z3)⟩
  · go_wp2_with fail
    refine (logBegun _).mono ?_; rintro e w4 ⟨_, rfl, rfl, b4⟩
    go_wp2
    go_ret
    exact ⟨_, rfl, rfl, low3.trans (b4.mono z3)⟩

end Go.Pch
end
