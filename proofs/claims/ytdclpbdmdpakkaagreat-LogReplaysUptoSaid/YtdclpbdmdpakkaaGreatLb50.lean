/- From a row's data of a bounded bulk to what a value reads as, and how much that is. Acts read from data of a bounded bulk. The log's contracts with their answers named. The law LogKept: the walk. -/
import Derived.Test.YtdclpbdmdpakkaaGreatRows
import Derived.Test.YtdclpbdmdpakkaaGreatLb47
import Derived.Test.YtdclpbdmdpakkaaGreatLb38
import Derived.Test.YtdclpbdmdpakkaaGreatLb39
import Derived.Test.YtdclpbdmdpakkaaGreatLb29
import Derived.Test.YtdclpbdmdpakkaaGreatLb49
section
namespace Go.Pch
open Go.RowKit Go.ChangeShapes Go.WideShapes Go.Proofs
open Go.Proofs.YtdclpbdmdpakkaaGreat.Rows (uptoBulk uptoBulkAll uptoSmall)

theorem bulk_one {H : Type} (d : DataW H) : 1 ≤ uptoBulk d := by
  cases d with
  | lit l => cases l <;> simp [uptoBulk]
  | nil => simp [uptoBulk]
  | ptr d => simp [uptoBulk]
  | slice elems spare => simp [uptoBulk]
  | agg parts => simp [uptoBulk]
  | iface t d => simp [uptoBulk]
  | map entries => simp [uptoBulk]
  | held h => simp [uptoBulk]
theorem bulk_part {H : Type} {d : DataW H} {l : List (DataW H)} (h : d ∈ l) : uptoBulk d ≤ uptoBulkAll l := by
  induction l with
  | nil => cases h
  | cons x r ih =>
    simp only [uptoBulkAll]
    cases List.mem_cons.1 h with
    | inl e => subst e; omega
    | inr e => have := ih e; omega
theorem bulk_bound {H : Type} {l : List (DataW H)} (hk : uptoSmall H l = true) : uptoBulkAll l ≤ 1048576 := of_decide_eq_true hk

/-- Whatever reads as data of type t reads as E says, and is of no more than its bulk. -/
def OpensM (P : Program) {α : Type} (E : Ty α) (m : α → Nat) (t : TypeId) : Prop :=
  ∀ (H : Type) (enc : TypeId × Value → H) (w : World) (base : Nat) (spare : Nat → Bool) (held : Bool) (fuel : Nat) (cs : List Value) (x : DataW H × List MemPlace),
    DataW.trod enc P w base spare held fuel t cs = some x → ∃ a, E.rd w (fun _ => True) cs a ∧ m a ≤ uptoBulk x.1

/-- How much a list's elements are. -/
def sumM {α : Type} (m : α → Nat) (l : List α) : Nat := (l.map m).sum

theorem Opens.one {P : Program} {α : Type} {E : Ty α} {t : TypeId} (h : Opens P E t) : OpensM P E (fun _ => 1) t := by
  intro H enc w base spare held fuel cs x hx
  obtain ⟨a, ha⟩ := h H enc w base spare held fuel cs x hx
  exact ⟨a, ha, bulk_one _⟩

theorem sum_le {α : Type} {H : Type} {m : α → Nat} {D : Nat → DataW H} : ∀ (l : List α) (k : Nat), (∀ (i : Nat) a, l[i]? = some a → m a ≤ uptoBulk (D (k + i))) → sumM m l ≤ uptoBulkAll ((List.range' k l.length).map D)
  | [], k, _ => by simp [sumM]
  | a :: l, k, h => by
    have h0 := h 0 a rfl
    have ih := sum_le l (k + 1) fun i b hb => by have := h (i + 1) b (by simpa using hb); rwa [show k + (i + 1) = k + 1 + i by omega] at this
    simp only [List.length_cons, List.range'_succ, List.map_cons, uptoBulkAll]
    simp only [sumM, List.map_cons, List.sum_cons, Nat.add_zero] at *
    omega

theorem OpensM.slice {P : Program} {α : Type} {E : Ty α} {m : α → Nat} {t e : TypeId} (hE : OpensM P E m e) (ht : P.underlying t = some (.slice e)) (hc : P.cellsOf e = E.size) : OpensM P E.slice (sumM m) t := by
  intro H enc w base spare held fuel cs x h
  rcases Deep.open_slice ht h with ⟨rfl, _⟩ | ⟨a, len, cap, mm, n, D, Pl, rfl, hb, hl, hm, hmm, rfl, hx⟩
  · exact ⟨[], Sl.nil E w _, by simp [sumM]⟩
  · have hlm : len ≤ mm := by rw [hmm]; split <;> omega
    have each : ∀ i, i < len → ∃ q : List Value × α, (E.rd w (fun _ => True) q.1 q.2 ∧ m q.2 ≤ uptoBulk (D i)) ∧ ∀ j u, q.1[j]? = some u → w.cell? (a.add (i * E.size + j)) = some u := by
      intro i hi
      obtain ⟨cs', h1, h2⟩ := hx i (by omega)
      rw [hc] at h1
      obtain ⟨_, hlen, hcell⟩ := World.cells?_some h1
      obtain ⟨b, hrd, hbm⟩ := hE H enc w base spare held n cs' _ h2
      refine ⟨(cs', b), ⟨hrd, hbm⟩, fun j u hj => ?_⟩
      obtain ⟨hjl, rfl⟩ := List.getElem?_eq_some_iff.1 hj
      have hjl' : j < cs'.length := hjl
      have := hcell j (by omega)
      rw [Deep.add_add] at this
      rw [this]
      simp [hjl]
    by_cases h0 : len = 0
    · subst h0
      exact ⟨[], ⟨some a, 0, cap, rfl, rfl, Nat.zero_le _, hm, by simp, by simp⟩, by simp [sumM]⟩
    · obtain ⟨q0, ⟨hr0, _⟩, hc0⟩ := each 0 (by omega)
      have hne : ∃ u, q0.1[0]? = some u := by
        have := E.len hr0; have := E.pos
        exact ⟨q0.1[0], List.getElem?_eq_getElem (by omega)⟩
      obtain ⟨u0, hu0⟩ := hne
      have hcell0 := hc0 0 u0 hu0
      obtain ⟨b, o, spot⟩ := a
      have hspot : spot = none := by simpa [Addr.add] using World.cell?_spot hcell0
      subst hspot
      have each' : ∀ i (x : Unit), (List.replicate len ())[i]? = some x → ∃ q : List Value × α, (E.rd w (fun _ => True) q.1 q.2 ∧ m q.2 ≤ uptoBulk (D i)) ∧ ∀ j u, q.1[j]? = some u → w.cell? ⟨b, o + i * E.size + j, none⟩ = some u := by
        intro i x hi
        have hlt : i < len := by simpa using (List.getElem?_eq_some_iff.1 hi).1
        obtain ⟨q, h1, h2⟩ := each i hlt
        exact ⟨q, h1, fun j u hj => by have := h2 j u hj; rwa [Addr.add_lit, ← Nat.add_assoc] at this⟩
      obtain ⟨qs, hql, hq⟩ := exists_list (List.replicate len ()) each'
      rw [List.length_replicate] at hql
      have hget : ∀ (i : Nat) q, qs[i]? = some q → (E.rd w (fun _ => True) q.1 q.2 ∧ m q.2 ≤ uptoBulk (D i)) ∧ ∀ j u, q.1[j]? = some u → w.cell? ⟨b, o + i * E.size + j, none⟩ = some u := fun i q hqi => by
        have hlt : i < len := by have := (List.getElem?_eq_some_iff.1 hqi).1; omega
        exact hq i q () hqi (by simp [hlt])
      refine ⟨qs.map (·.2), ⟨some ⟨b, o, none⟩, len, cap, rfl, by simp [hql], hl, hm, by simp, fun i x hi => ⟨b, o, rfl, trivial, ?_⟩⟩, ?_⟩
      · rw [List.getElem?_map] at hi
        obtain ⟨q, hqi, rfl⟩ := Option.map_eq_some_iff.1 hi
        exact ⟨q.1, (hget i q hqi).1.1, (hget i q hqi).2⟩
      · have hs := sum_le (m := m) (D := D) (qs.map (·.2)) 0 fun i a ha => by
          rw [List.getElem?_map] at ha
          obtain ⟨q, hqi, rfl⟩ := Option.map_eq_some_iff.1 ha
          rw [Nat.zero_add]
          exact (hget i q hqi).1.2
        rw [List.length_map, hql, ← List.range_eq_range'] at hs
        simp only [uptoBulk]
        omega

/-- How many rows a tree has. -/
def treeM (t : List (List (List Row))) : Nat := sumM (sumM (sumM fun _ => 1)) t

theorem sumM_len {α : Type} (l : List α) : sumM (fun _ => 1) l = l.length := by
  induction l with
  | nil => rfl
  | cons x l ih => simp only [sumM, List.map_cons, List.sum_cons, List.length_cons] at *; omega
theorem sumM_flat {α : Type} (l : List (List α)) : sumM (sumM fun _ => 1) l = l.flatten.length := by
  induction l with
  | nil => rfl
  | cons x l ih =>
    rw [List.flatten_cons, List.length_append, ← ih, sumM, List.map_cons, List.sum_cons, sumM_len]; rfl

theorem flat_le (t : List (List (List (Int × Int)))) : (t.headD []).flatten.length ≤ treeM t := by
  cases t with
  | nil => simp
  | cons x t =>
    have h1 := sumM_flat x
    have h2 : treeM (x :: t) = sumM (sumM fun _ => 1) x + sumM (sumM (sumM fun _ => 1)) t := by rw [treeM, sumM, List.map_cons, List.sum_cons]; rfl
    rw [List.headD_cons]
    omega
theorem flat_small {H : Type} {t : List (List (List (Int × Int)))} {d : DataW H} {l : List (DataW H)} (hk : uptoSmall H l = true) (hd : d ∈ l) (hm : treeM t ≤ uptoBulk d) : (t.headD []).flatten.length ≤ 1048576 :=
  Nat.le_trans (flat_le t) (Nat.le_trans hm (Nat.le_trans (bulk_part hd) (bulk_bound hk)))

end Go.Pch
end

section
namespace Go.Pch
open Go.RowKit Go.Proofs Go.ChangeShapes Go.WideShapes
open Go.Proofs.YtdclpbdmdpakkaaGreat.Rows (uptoBulk uptoBulkAll uptoSmall)

/-- How much an act is. -/
def actM (x : Act) : Nat := x.2.1.size + x.2.2.1.size + x.2.2.2.length
/-- An act that is not too large for a machine. -/
def ActSmall (x : Act) : Prop := i64ok x.1 ∧ x.2.1.size ≤ 10000000 ∧ x.2.2.1.size ≤ 10000000 ∧ x.2.2.2.length ≤ 10000000
theorem openFourM {P : Program} {t : TypeId} {f0 f1 f2 f3 : Field} (ht : P.underlying t = some (.struct #[f0, f1, f2, f3])) (hc : P.cellsOf t = 4) (o0 : f0.offset = 0) (o1 : f1.offset = 1) (o2 : f2.offset = 2) (o3 : f3.offset = 3) (c0 : P.cellsOf f0.type = 1) (c1 : P.cellsOf f1.type = 1) (c2 : P.cellsOf f2.type = 1) (c3 : P.cellsOf f3.type = 1)
    (t0 : P.underlying f0.type = some (.int .i64)) (t1 : P.underlying f1.type = some .string) (t2 : P.underlying f2.type = some .string) (t3 : OpensM P tChange.slice (sumM fun _ => 1) f3.type)
    (H : Type) (enc : TypeId × Value → H) (w : World) (base : Nat) (spare : Nat → Bool) (held : Bool) (fuel : Nat) (cs : List Value) (x : DataW H × List MemPlace)
    (h : DataW.trod enc P w base spare held fuel t cs = some x) : ∃ a, ActCells w (fun _ => True) cs a ∧ actM a ≤ uptoBulk x.1 := by
  obtain ⟨xs, n, _, rfl, hl, hlen, hf⟩ := DataW.trod_struct ht h
  match xs, hlen with
  | [y0, y1, y2, y3], _ =>
    have g0 := hf 0 f0 rfl
    have g1 := hf 1 f1 rfl
    have g2 := hf 2 f2 rfl
    have g3 := hf 3 f3 rfl
    rw [hc] at hl
    match cs, hl with
    | [a, b, c, d], _ =>
      simp only [o0, o1, o2, o3, c0, c1, c2, c3, List.drop_zero, List.take_succ_cons, List.take_zero, List.drop_succ_cons] at g0 g1 g2 g3
      obtain ⟨k, q0, _, w0⟩ := DataW.trod_int t0 g0
      obtain ⟨s, q1, e1, w1⟩ := DataW.trod_string t1 g1
      obtain ⟨u, q2, e2, w2⟩ := DataW.trod_string t2 g2
      obtain ⟨l, hd, hm⟩ := t3 H enc w base spare held _ _ _ g3
      simp at q0 q1 q2
      subst q0 q1 q2
      obtain ⟨a3, n3, c3, hv, r3⟩ := hd
      simp at hv
      subst hv
      refine ⟨(k, s, u, l), ⟨_, rfl, i64ok_of_wf w0, w1, w2, a3, n3, c3, rfl, r3⟩, ?_⟩
      rw [sumM_len] at hm
      have l1 : s.data.toList.length = s.size := Array.length_toList
      have l2 : u.data.toList.length = u.size := Array.length_toList
      subst e1 e2
      simp only [uptoBulk, uptoBulkAll, List.map_cons, List.map_nil, actM, l1, l2]
      omega
theorem opChangesM : OpensM Tryz.prog tChange.slice (sumM fun _ => 1) 34 := (opChange.one).slice Tryz.underlying34 (by kernel_rfl)
theorem opActM (H : Type) (enc : TypeId × Value → H) (w : World) (base : Nat) (spare : Nat → Bool) (held : Bool) (fuel : Nat) (cs : List Value) (x : DataW H × List MemPlace)
    (h : DataW.trod enc Tryz.prog w base spare held fuel 36 cs = some x) : ∃ a, ActCells w (fun _ => True) cs a ∧ actM a ≤ uptoBulk x.1 := by
  obtain ⟨f0, f1, f2, f3, e0, h0, h1, h2, h3⟩ := four_of_map actFields
  simp only [Prod.mk.injEq] at h0 h1 h2 h3
  have e : Tryz.prog.fieldsOf 36 = #[f0, f1, f2, f3] := by rw [← Array.toList_inj, e0]
  exact openFourM (by rw [actStruct, e]) (by kernel_rfl) h0.2.1 h1.2.1 h2.2.1 h3.2.1 (by rw [h0.1]; kernel_rfl) (by rw [h1.1]; kernel_rfl) (by rw [h2.1]; kernel_rfl) (by rw [h3.1]; kernel_rfl)
    (by rw [h0.1]; exact Tryz.underlying3) (by rw [h1.1]; exact Tryz.underlying9) (by rw [h2.1]; exact Tryz.underlying9) (by rw [h3.1]; exact opChangesM) H enc w base spare held fuel cs x h
theorem actSmall_of {w : World} {S : Blk} {cs : List Value} {x : Act} (h : ActCells w S cs x) (z : actM x ≤ 1048576) : ActSmall x := by
  obtain ⟨_, _, h1, _⟩ := h
  unfold actM at z
  exact ⟨h1, by omega, by omega, by omega⟩
theorem act_small {H : Type} {a : Act} {d : DataW H} {l : List (DataW H)} (hk : uptoSmall H l = true) (hd : d ∈ l) (hm : actM a ≤ uptoBulk d) : actM a ≤ 1048576 :=
  Nat.le_trans hm (Nat.le_trans (bulk_part hd) (bulk_bound hk))
theorem opActE : OpensM Tryz.prog tAct actM 36 := fun H enc w base spare held fuel cs x h => opActM H enc w base spare held fuel cs x h
theorem opActsM : OpensM Tryz.prog tAct.slice (sumM actM) 42 := opActE.slice Tryz.underlying42 (by kernel_rfl)
theorem acts_small {H : Type} {a : List Act} {d : DataW H} {l : List (DataW H)} (hk : uptoSmall H l = true) (hd : d ∈ l) (hm : sumM actM a ≤ uptoBulk d) : sumM actM a ≤ 1048576 :=
  Nat.le_trans hm (Nat.le_trans (bulk_part hd) (bulk_bound hk))
theorem sumM_mem {α : Type} {m : α → Nat} {x : α} : ∀ {l : List α}, x ∈ l → m x ≤ sumM m l
  | a :: l, h => by
    have e : sumM m (a :: l) = m a + sumM m l := by simp [sumM]
    rcases List.mem_cons.1 h with rfl | h
    · omega
    · have := sumM_mem (m := m) h
      omega
theorem actsSmall_of {w : World} {S : Blk} {v : Value} {l : List Act} (h : Sl tAct w S v l) (z : sumM actM l ≤ 1048576) : ∀ x ∈ l, ActSmall x := by
  intro x hx
  obtain ⟨n, hn⟩ := List.mem_iff_getElem?.1 hx
  obtain ⟨_, _, rfl, _, _, _⟩ := h.shape
  obtain ⟨b, o, cs, _, _, _, hrd, _⟩ := h.get n x hn
  exact actSmall_of hrd (Nat.le_trans (sumM_mem hx) z)

end Go.Pch
end

section
namespace Go.Pch
open Go.RowKit Go.Proofs
set_option maxRecDepth 100000

/-- Contracts with the answers named. -/
theorem logRecover_is {R : Repo} {N E : Int} (t : Bytes) (w : World) (ht : t.length ≤ maxLen) (h : recP t = (R, N, E)) : Calls Tryz.prog 21 #[.string (bl t)] w (Ret w fun y W => ∃ a1 n1 c1 a2 n2 c2, y = .tuple #[.agg #[.slice a1 n1 c1, .slice a2 n2 c2], .int .i64 N, .int .i64 E] ∧ Rp W (fun k => w.heap.size ≤ k) (.agg #[.slice a1 n1 c1, .slice a2 n2 c2]) R) := by
  refine (logRecover t w ht).mono ?_
  rintro e W ⟨_, rfl, ⟨v, rfl, hv⟩, b⟩
  rw [h] at hv
  rw [h]
  obtain ⟨x, y, rfl, hx, hy⟩ := hv
  obtain ⟨a1, c1, rfl, _, _, _⟩ := hx.shape
  obtain ⟨a2, c2, rfl, _, _, _⟩ := hy.shape
  exact ⟨_, rfl, ⟨_, _, _, _, _, _, rfl, _, _, rfl, hx, hy⟩, b⟩
theorem logReplay_is {L : List Act} {N E : Int} (t : Bytes) (w : World) (ht : t.length ≤ maxLen) (h : replayP t = (L, N, E)) : Calls Tryz.prog 18 #[.string (bl t)] w (Ret w fun y W => ∃ a c, y = .tuple #[.slice a L.length c, .int .i64 N, .int .i64 E] ∧ Sl tAct W (fun k => w.heap.size ≤ k) (.slice a L.length c) L) := by
  refine (logReplay t w ht).mono ?_
  rintro e W ⟨_, rfl, ⟨v, rfl, hv⟩, b⟩
  rw [h] at hv
  rw [h]
  obtain ⟨a, c, rfl, _, _, _⟩ := hv.shape
  exact ⟨_, rfl, ⟨_, _, rfl, hv⟩, b⟩
theorem logWrite_is {B : Bytes} {F : Int} (u : Value) (x : Act) (S : Blk) (w : World) (g : AtAct w S u x) (hz : ActSmall x) (h : actWP x = (B, F)) : Calls Tryz.prog 16 #[u] w (Ret w fun y _ => y = .tuple #[.string (bl B), .int .i64 F]) := by
  have := logWrite u x S w g hz.1 hz.2.1 hz.2.2.1 hz.2.2.2
  rwa [h] at this
theorem logDo_is {R : Repo} {I : Int} (v u : Value) (r : Repo) (x : Act) (S S' : Blk) (w : World) (h : Rp w S v r) (g : AtAct w S' u x) (hc : doP r x = (R, I)) :
    Calls Tryz.prog 13 #[v, u] w (Ret w fun y W => ∃ a1 n1 c1 a2 n2 c2, y = .tuple #[.agg #[.slice a1 n1 c1, .slice a2 n2 c2], .int .i64 I] ∧ Rp W (fun k => w.heap.size ≤ k) (.agg #[.slice a1 n1 c1, .slice a2 n2 c2]) R) := by
  refine (logDo v u r x S S' w h g).mono ?_
  rintro e W ⟨_, rfl, ⟨y, rfl, hy⟩, b⟩
  rw [hc] at hy
  rw [hc]
  obtain ⟨x, y, rfl, hx, hy⟩ := hy
  obtain ⟨a1, c1, rfl, _, _, _⟩ := hx.shape
  obtain ⟨a2, c2, rfl, _, _, _⟩ := hy.shape
  exact ⟨_, rfl, ⟨_, _, _, _, _, _, rfl, _, _, rfl, hx, hy⟩, b⟩
/-- An act in its box. -/
structure ActBox (w : World) (g : Nat) (k : Int) (a b : ByteArray) (vd : Value) : Prop where
  row : w.heap[g]? = some (.cells #[.int .i64 k, .string a, .string b, vd] 36)
theorem ActBox.call {w w' : World} {g : Nat} {k : Int} {a b : ByteArray} {vd : Value} (h : ActBox w g k a b vd) (hb : Below w.heap.size w w') : ActBox w' g k a b vd := ⟨(hb.block g (Array.getElem?_eq_some_iff.1 h.row).1).trans h.row⟩
theorem ActBox.cells {w : World} {g : Nat} {k : Int} {a b : ByteArray} {vd : Value} (h : ActBox w g k a b vd) : w.cell? ⟨g, 0, none⟩ = some (.int .i64 k) ∧ w.cell? ⟨g, 1, none⟩ = some (.string a) ∧ w.cell? ⟨g, 2, none⟩ = some (.string b) ∧ w.cell? ⟨g, 3, none⟩ = some vd :=
  ⟨by rw [World.cell?, h.row]; rfl, by rw [World.cell?, h.row]; rfl, by rw [World.cell?, h.row]; rfl, by rw [World.cell?, h.row]; rfl⟩
theorem Rp.held {w : World} {S : Blk} {v : Value} {r : Repo} (h : Rp w S v r) : Rp w (fun k => k < w.heap.size) v r := by
  obtain ⟨x, y, hv, hx, hy⟩ := h
  exact ⟨x, y, hv, hx.old, hy.old⟩

theorem actBy_len {x : Act} (h : actBad x = false) : (actBy x).length ≤ 2000 := by
  simp only [actBad, Bool.or_eq_false_iff] at h
  have h2 := out1 h.1.1.1.2
  have h3 := out1 h.1.1.2
  have h4 := out1 h.1.2
  have e1 : x.2.1.data.toList.length = x.2.1.size := Array.length_toList
  have e2 : x.2.2.1.data.toList.length = x.2.2.1.size := Array.length_toList
  have e3 : ∀ l : List Change, (l.flatMap chgBy).length = 5 * l.length := by
    intro l
    induction l with
    | nil => rfl
    | cons a l ih => rw [List.flatMap_cons, List.length_append, ih]; simp [chgBy, enc1, enc2]; omega
  rw [actBy]
  simp only [List.length_append, e1, e2, e3, enc1, List.length_cons, List.length_nil]
  omega

end Go.Pch
end

section
namespace Go.Pch
open Go.RowKit Go.Proofs
set_option maxRecDepth 100000

/-- Where acts end, the first n of them. -/
def endsL (l : List Act) (n : Nat) : List Int := (List.range n).map fun i => (endAt l (i + 1) : Int)
theorem endsL_len (l : List Act) (n : Nat) : (endsL l n).length = n := by simp [endsL]
theorem endsL_next (l : List Act) (n : Nat) : endsL l (n + 1) = endsL l n ++ [(endAt l (n + 1) : Int)] := by simp [endsL, List.range_succ]
theorem endsL_at {l : List Act} {n i : Nat} (h : i < n) : (endsL l n)[i]? = some (endAt l (i + 1) : Int) := by
  rw [endsL, List.getElem?_map, List.getElem?_range h]; rfl
theorem endAt_zero (l : List Act) : endAt l 0 = 0 := by simp [endAt]
theorem acts_len {l : List Act} (h : ∀ x ∈ l, actBad x = false) : (l.flatMap actBy).length ≤ 2000 * l.length := by
  induction l with
  | nil => simp
  | cons a l ih =>
    have h0 := actBy_len (h a (by simp))
    have := ih fun x hx => h x (by simp [hx])
    rw [List.flatMap_cons, List.length_append, List.length_cons]
    omega
theorem actWP_good {x : Act} (h : actBad x = false) : actWP x = (actBy x, 0) := by rw [actWP, if_neg (by rw [h]; decide)]
theorem actWP_bad {x : Act} (h : actBad x = true) : actWP x = ([], 3) := by rw [actWP, if_pos h]

theorem keepBox {w x x' : World} {g : Nat} {y0 y1 v : Value} {S : Blk} {r : Repo} (h : BoxRow x g y0 y1) (hR : Rp x S v r) (low : Below w.heap.size w x) (b : Below x.heap.size x x') : x'.cell? ⟨g, 0, none⟩ = some y0 ∧ x'.cell? ⟨g, 1, none⟩ = some y1 ∧ Rp x' S v r ∧ BoxRow x' g y0 y1 ∧ Below w.heap.size w x' :=
  ⟨(h.call b).cell0, (h.call b).cell1, hR.call b, h.call b, low.trans (b.mono low.size)⟩
theorem rec_cut {l : List Act} {j : Nat} {SS : Bytes} {kk m : Nat} (hn : j = l.length) (hS : l.flatMap actBy = SS) (hg : ∀ x ∈ l, actBad x = false) (h24 : j ≤ 24) (hm : m ≤ j) (h4 : SS.length ≤ 4096) (h1 : endAt l m ≤ kk) (h2 : ∀ x, l[m]? = some x → kk < endAt l m + (actBy x).length) :
    recP (SS.take kk) = (doneP (l.take m), (m : Int), 0) := by
  subst hn hS
  rw [recP, if_neg (by rw [List.length_take]; omega), replay_cut hg h24 hm h1 h2, List.length_take]
  rw [Nat.min_eq_left hm]

set_option maxHeartbeats 2000000 in
theorem lawLogKept (v : Value) (l : List Act) (c : Int) (w : World) (h : Sl tAct w (fun _ => True) v l) (hc : i64ok c) (hz : ∀ x ∈ l, ActSmall x) : Calls Tryz.prog 7 #[v, .int .i64 c] w (Ret w fun y _ => y = .bool true) := by
  obtain ⟨al, cl, hv, hcl, hml, _⟩ := h.shape
  unfold maxLen at hml
  obtain ⟨nl, hnl⟩ : ∃ n, n = l.length := ⟨_, rfl⟩
  rw [← hnl] at hv hcl
  have HNL := keepBack hnl
  clear hnl
  subst hv
  by_cases hbig : 24 < nl
  · have hI : (24 : Int) < nl := by omega
    go_enter Tryz.func7, Tryz.ntmps7
    go_wp2_with fail
    refine (logBegun _).mono ?_; rintro e w4 ⟨_, rfl, rfl, b4⟩
    go_wp2
    go_ret
    exact ⟨_, rfl, rfl, b4⟩
  · have hI : ¬ (24 : Int) < nl := by omega
    go_enter Tryz.func7, Tryz.ntmps7
    go_wp2_with fail
    go_loopw [5, 6, 7, 8, 9] (fun us ue uk _ _ wr => ∃ (j : Nat) (ve : Value), j ≤ nl ∧ us = .string (bl ((l.take j).flatMap actBy)) ∧ ve = ue ∧ uk = .int .i64 j ∧ Own tInt 3 wr w.heap.size (fun _ => False) ve (endsL l j) ∧ Below w.heap.size w wr ∧ ∀ x ∈ l.take j, actBad x = false) (fun _ _ uk _ _ _ => nl - (intOf uk).toNat)
    case atStart => exact ⟨0, _, Nat.zero_le _, by simp [bl], rfl, rfl, Own.nil, Below.refl _ _, by simp⟩
    case round =>
      obtain ⟨j, ve, hj, rfl, rfl, rfl, ho, bW, hgood⟩ := hrel
      have zW := bW.size
      have hhW := h.call bW
      by_cases hlt : j < nl
      · have hjI : (j : Int) < nl := by omega
        obtain ⟨y, hy⟩ : ∃ y, l[j]? = some y := ⟨l[j]'(by have := HNL.out; omega), List.getElem?_eq_getElem _⟩
        obtain ⟨b, o, ad, cd, hix, _, hbs, ok1, ok2, ok3, hd, _, _, q0, q1, q2, q3⟩ := hhW.idxAct aAct j j y rfl hy
        have hzy := hz y (List.mem_of_getElem? hy)
        have HY := keepBack hy
        clear hy
        cases hbad : actBad y with
        | true =>
          have T := logWrite_is (.agg #[.int .i64 y.1, .string y.2.1, .string y.2.2.1, .slice ad y.2.2.2.length cd]) y _ wr ⟨_, rfl, hd⟩ hzy (actWP_bad hbad)
          obtain ⟨kk, s1, s2, d⟩ := y
          simp only at T q0 q1 q2 q3
          go_wp2_with fail
          refine T.mono ?_; rintro e w1 ⟨_, rfl, rfl, b1⟩
          clear T
          go_wp2_with fail
          refine (logBegun _).mono ?_; rintro e w4 ⟨_, rfl, rfl, b4⟩
          go_wp2
          go_ret
          exact ⟨_, rfl, rfl, bW.trans ((b1.trans (b4.mono b1.size)).mono zW)⟩
        | false =>
          have T := logWrite_is (.agg #[.int .i64 y.1, .string y.2.1, .string y.2.2.1, .slice ad y.2.2.2.length cd]) y _ wr ⟨_, rfl, hd⟩ hzy (actWP_good hbad)
          have hlen := actBy_len hbad
          have htake : l.take (j + 1) = l.take j ++ [y] := by rw [List.take_add_one, HY.out]; rfl
          have happ : bl ((l.take j).flatMap actBy) ++ bl (actBy y) = bl ((l.take (j + 1)).flatMap actBy) := by rw [bl_app, htake]; simp
          have hgood' : ∀ x ∈ l.take (j + 1), actBad x = false := fun x hx => by
            rw [htake] at hx
            rcases List.mem_append.1 hx with hx | hx
            · exact hgood x hx
            · simp only [List.mem_singleton] at hx
              rw [hx]; exact hbad
          have hL1 := acts_len hgood
          rw [List.length_take] at hL1
          have hs1 := bl_size ((l.take j).flatMap actBy)
          have hs2 := bl_size (actBy y)
          have hs3 : (bl ((l.take (j + 1)).flatMap actBy)).size = endAt l (j + 1) := bl_size _
          have hL3 := acts_len hgood'
          rw [List.length_take] at hL3
          have hL3' : endAt l (j + 1) ≤ 48000 := by show ((l.take (j + 1)).flatMap actBy).length ≤ _; omega
          have hL1' : ((l.take j).flatMap actBy).length ≤ 48000 := by omega
          have HG := keepBack hgood'
          clear htake hgood' hL1 hL3
          generalize (l.take j).flatMap actBy = X at *
          generalize hX' : (l.take (j + 1)).flatMap actBy = X' at *
          have HX' := keepBack hX'
          clear hX'
          generalize actBy y = Y at *
          obtain ⟨kk, s1, s2, d⟩ := y
          simp only at T q0 q1 q2 q3
          go_wp2_with fail
          refine T.mono ?_; rintro e w1 ⟨_, rfl, rfl, b1⟩
          clear T
          have z1 := b1.size
          have ho1 := ho.call b1
          have HEN := keepBack (endsL_next l j)
          generalize hEA : endAt l (j + 1) = EA at *
          clear hEA
          obtain ⟨u2, LL, c2, w2, hrun, ho2, on2⟩ := ho1.pushG aInt [.int .i64 (EA : Int)] (EA : Int) (D := fun _ => False) ⟨rfl, by unfold i64ok; omega⟩ (fun _ h => h.elim) (by rw [endsL_len]; omega) (by omega) w1.heap.size rfl
          have b2 : Below w.heap.size w w2 := (bW.trans (b1.mono zW)).trans (on2.below (fun g hg => (ho1.block g hg).1) (by omega))
          clear q0 q1 q2 q3 hix
          go_wp2_with (at_builtin; refine Lib.wpList_append_run _ rfl _ _ _ _ rfl _ _ rfl rfl _ _ hrun ?_)
          clear hrun
          go_roundw
          case rel => exact ⟨j + 1, _, by omega, by rw [HX'.out], rfl, by go_num, by rw [HEN.out]; exact ho2, b2, HG.out⟩
          case measure => simp [intOf]; omega
      · have hkl : l.take j = l := List.take_of_length_le (by have := HNL.out; omega)
        rw [hkl] at hgood ⊢
        obtain rfl : j = nl := by omega
        have hS := acts_len hgood
        have hsz := bl_size (l.flatMap actBy)
        have hjI : ¬ (j : Int) < j := by omega
        have hS' : (l.flatMap actBy).length ≤ 48000 := by have := HNL.out; omega
        have HG := keepBack hgood
        clear hgood hkl hS hlt hj
        generalize hSS : l.flatMap actBy = SS at *
        have HSS := keepBack hSS
        clear hSS
        by_cases h4 : (4096 : Int) < SS.length
        · go_wp2_with fail
          refine (logBegun _).mono ?_; rintro e w4 ⟨_, rfl, rfl, b4⟩
          go_wp2
          go_ret
          exact ⟨_, rfl, rfl, bW.trans (b4.mono zW)⟩
        · obtain ⟨kk, hkk, hkl⟩ : ∃ kk : Nat, chooseL c ((SS.length : Int) + 1) = (kk : Int) ∧ kk ≤ SS.length := by
            have h1 := Int.emod_nonneg (if c < 0 then -(c + 1) else c) (show (SS.length : Int) + 1 ≠ 0 by omega)
            have h2 := Int.emod_lt_of_pos (if c < 0 then -(c + 1) else c) (show (0 : Int) < (SS.length : Int) + 1 by omega)
            exact ⟨(chooseL c ((SS.length : Int) + 1)).toNat, by unfold chooseL; omega, by unfold chooseL; omega⟩
          have T := lawChoose c ((SS.length : Int) + 1) wr hc (by omega) (by omega)
          rw [hkk] at T
          clear hkk
          go_wp2_with fail
          refine T.mono ?_; rintro e w1 ⟨rfl, rfl⟩
          clear T
          go_wp2_with fail
          obtain ⟨ae, ce, hve, hce1, hce2⟩ := ho.shape
          rw [endsL_len] at hve hce1
          subst hve
          unfold maxLen at hce2
          have hse := ho.sl (D := fun k => w.heap.size ≤ k) (fun _ h => h.elim) (fun _ h => h)
          have hcut : (bl SS).extract 0 kk = bl (SS.take kk) := bl_take SS kk
          have hkI : (kk : Int) ≤ SS.length := by omega
          have h24 : j ≤ 24 := by omega
          have h4N : SS.length ≤ 4096 := by omega
          go_loop [11] (fun um => ∃ m : Nat, m ≤ j ∧ um = .int .i64 m ∧ endAt l m ≤ kk) (fun um => j - (intOf um).toNat)
          case atStart => exact ⟨0, Nat.zero_le _, rfl, by rw [endAt_zero]; omega⟩
          case round =>
            obtain ⟨m, hm, rfl, hme⟩ := hrel
            by_cases hmj : m < j
            · obtain ⟨b, o, hix, _, hbs, _, hc0⟩ := hse.idxInt aInt m m rfl (by rw [endsL_len]; exact hmj)
              obtain ⟨_, hge⟩ := List.getElem_of_getElem? (endsL_at (l := l) hmj)
              rw [hge] at hc0
              clear hge
              obtain ⟨EA, hEA⟩ : ∃ EA, EA = endAt l (m + 1) := ⟨_, rfl⟩
              rw [← hEA] at hc0
              have HEA := keepBack hEA
              clear hEA
              have hmI : (m : Int) < j := by omega
              by_cases hle : (EA : Int) ≤ kk
              · go_wp2_with fail
                go_round
                case rel => exact ⟨m + 1, by omega, by go_num, by rw [← HEA.out]; omega⟩
                case measure => simp [intOf]; omega
              · have hnext : ∀ x, l[m]? = some x → kk < endAt l m + (actBy x).length := fun x hx => by have := endAt_next hx; have := HEA.out; omega
                have HREC := keepBack (rec_cut HNL.out HSS.out HG.out h24 hm h4N hme hnext)
                have hlen : (SS.take kk).length ≤ maxLen := by unfold maxLen; rw [List.length_take]; omega
                clear hnext hme
                go_wp2_with fail
                refine (logRecover_is (SS.take kk) wr hlen HREC.out).mono ?_; rintro e w1 ⟨_, rfl, ⟨a1, n1, c1, a2, n2, c2, rfl, hr1⟩, b1⟩
                have low1 := bW.trans (b1.mono zW)
                obtain ⟨x1, hx1⟩ : ∃ x, x = w1.alloc (.cells #[.slice a1 n1 c1, .slice a2 n2 c2] 25) := ⟨_, rfl⟩
                have bB : Below w1.heap.size w1 x1 := by rw [hx1]; exact (Below.refl _ _).alloc (Nat.le_refl _) _
                have S1 : BoxRow x1 w1.heap.size (.slice a1 n1 c1) (.slice a2 n2 c2) := by rw [hx1]; exact ⟨heap_alloc_new _ _⟩
                have low1b := low1.trans (bB.mono low1.size)
                have hr1b := hr1.call bB
                have dD : Below x1.heap.size x1 x1.drew := (Below.refl _ _).drew
                obtain ⟨d0, d1, hrd, Sd, lowd⟩ := keepBox S1 hr1b low1b dD
                obtain ⟨a5, c5, hv1, hv2, hsl, _⟩ := h.cutTo aAct (m : Int) m rfl (by have := HNL.out; omega)
                have H1 := keepBack hx1
                clear hx1
                go_wp2_with fail
                rw [← H1.out]
                go_region_held3 (fun W => W.cell? ⟨w1.heap.size, 0, none⟩ = some (.slice a1 n1 c1) ∧ W.cell? ⟨w1.heap.size, 1, none⟩ = some (.slice a2 n2 c2))
                  (first
                    | exact ⟨d0, d1⟩
                    | exact ⟨q0, q1⟩
                    | exact ⟨t0, t1⟩
                    | exact ⟨p0, p1⟩
                    | exact ⟨s0, s1⟩
                    | fail)
                  (first
                    | (go_at_call 15; refine (logBegun _).mono ?_; rintro e w2 ⟨_, rfl, rfl, b2⟩; obtain ⟨q0, q1, hr2, S2, low2⟩ := keepBox Sd hrd lowd b2)
                    | (go_at_call 24; refine (repoCheck_of _ (doneP (l.take m)) _ w2 hr2 (done_right _)).mono ?_; rintro e w3 ⟨_, rfl, rfl, b3⟩; obtain ⟨t0, t1, hr3, S3, low3⟩ := keepBox S2 hr2 low2 b3)
                    | (go_at_call 22; refine (refDoneOf_of _ (l.take m) _ w3 (hsl.call low3)).mono ?_; rintro e w4 ⟨_, rfl, ⟨a6, n6, c6, a7, n7, c7, rfl, hr4⟩, b4⟩; obtain ⟨p0, p1, hr5, S4, low4⟩ := keepBox S3 hr3 low3 b4)
                    | (go_at_call 11; refine (refSameRepos _ _ (doneP (l.take m)) (doneP (l.take m)) _ _ w4 hr5 hr4).mono ?_; rintro e w5 ⟨_, rfl, rfl, b5⟩; rw [decide_eq_true rfl, decide_eq_true rfl]; obtain ⟨s0, s1, _, _, _⟩ := keepBox S4 hr5 low4 b5)
                    | fail)
                all_goals
                  go_wp2
                  go_ret
                  exact ⟨_, rfl, rfl, low4.trans (b5.mono low4.size)⟩
            · obtain rfl : m = j := by omega
              have hmI : ¬ (m : Int) < m := by omega
              have hnext : ∀ x, l[m]? = some x → kk < endAt l m + (actBy x).length := fun x hx => by have := (List.getElem?_eq_some_iff.1 hx).1; have := HNL.out; omega
              have HREC := keepBack (rec_cut HNL.out HSS.out HG.out h24 hm h4N hme hnext)
              have hlen : (SS.take kk).length ≤ maxLen := by unfold maxLen; rw [List.length_take]; omega
              clear hnext hme
              go_wp2_with fail
              refine (logRecover_is (SS.take kk) wr hlen HREC.out).mono ?_; rintro e w1 ⟨_, rfl, ⟨a1, n1, c1, a2, n2, c2, rfl, hr1⟩, b1⟩
              have low1 := bW.trans (b1.mono zW)
              obtain ⟨x1, hx1⟩ : ∃ x, x = w1.alloc (.cells #[.slice a1 n1 c1, .slice a2 n2 c2] 25) := ⟨_, rfl⟩
              have bB : Below w1.heap.size w1 x1 := by rw [hx1]; exact (Below.refl _ _).alloc (Nat.le_refl _) _
              have S1 : BoxRow x1 w1.heap.size (.slice a1 n1 c1) (.slice a2 n2 c2) := by rw [hx1]; exact ⟨heap_alloc_new _ _⟩
              have low1b := low1.trans (bB.mono low1.size)
              have hr1b := hr1.call bB
              have dD : Below x1.heap.size x1 x1.drew := (Below.refl _ _).drew
              obtain ⟨d0, d1, hrd, Sd, lowd⟩ := keepBox S1 hr1b low1b dD
              obtain ⟨a5, c5, hv1, hv2, hsl, _⟩ := h.cutTo aAct (m : Int) m rfl (by have := HNL.out; omega)
              have H1 := keepBack hx1
              clear hx1
              go_wp2_with fail
              rw [← H1.out]
              go_region_held3 (fun W => W.cell? ⟨w1.heap.size, 0, none⟩ = some (.slice a1 n1 c1) ∧ W.cell? ⟨w1.heap.size, 1, none⟩ = some (.slice a2 n2 c2))
                (first
                  | exact ⟨d0, d1⟩
                  | exact ⟨q0, q1⟩
                  | exact ⟨t0, t1⟩
                  | exact ⟨p0, p1⟩
                  | exact ⟨s0, s1⟩
                  | fail)
                (first
                  | (go_at_call 15; refine (logBegun _).mono ?_; rintro e w2 ⟨_, rfl, rfl, b2⟩; obtain ⟨q0, q1, hr2, S2, low2⟩ := keepBox Sd hrd lowd b2)
                  | (go_at_call 24; refine (repoCheck_of _ (doneP (l.take m)) _ w2 hr2 (done_right _)).mono ?_; rintro e w3 ⟨_, rfl, rfl, b3⟩; obtain ⟨t0, t1, hr3, S3, low3⟩ := keepBox S2 hr2 low2 b3)
                  | (go_at_call 22; refine (refDoneOf_of _ (l.take m) _ w3 (hsl.call low3)).mono ?_; rintro e w4 ⟨_, rfl, ⟨a6, n6, c6, a7, n7, c7, rfl, hr4⟩, b4⟩; obtain ⟨p0, p1, hr5, S4, low4⟩ := keepBox S3 hr3 low3 b4)
                  | (go_at_call 11; refine (refSameRepos _ _ (doneP (l.take m)) (doneP (l.take m)) _ _ w4 hr5 hr4).mono ?_; rintro e w5 ⟨_, rfl, rfl, b5⟩; rw [decide_eq_true rfl, decide_eq_true rfl]; obtain ⟨s0, s1, _, _, _⟩ := keepBox S4 hr5 low4 b5)
                  | fail)
              all_goals
                go_wp2
                go_ret
                exact ⟨_, rfl, rfl, low4.trans (b5.mono low4.size)⟩

end Go.Pch
end
