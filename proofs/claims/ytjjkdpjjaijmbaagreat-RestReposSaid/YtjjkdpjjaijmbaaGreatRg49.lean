/- Changes, read from data. What an act reads as, from data. What commits read as. What heads and repos read as. -/
import Derived.Test.YtjjkdpjjaijmbaaGreatRg48
import Derived.Test.YtjjkdpjjaijmbaaGreatRg16
import Derived.Test.YtjjkdpjjaijmbaaGreatRg30
import Derived.ChangeArms
import Derived.Test.YtjjkdpjjaijmbaaGreatRg2
import Derived.Test.YtjjkdpjjaijmbaaGreatRg3
section
namespace Go.Pch
open Go.RowKit Go.Proofs Go.ChangeShapes Go.WideShapes

theorem Opens.triple {P : Program} {t : TypeId} {f0 f1 f2 : Field} (ht : P.underlying t = some (.struct #[f0, f1, f2])) (hc : P.cellsOf t = 3) (o0 : f0.offset = 0) (o1 : f1.offset = 1) (o2 : f2.offset = 2) (c0 : P.cellsOf f0.type = 1) (c1 : P.cellsOf f1.type = 1) (c2 : P.cellsOf f2.type = 1)
    (t0 : P.underlying f0.type = some (.int .i64)) (t1 : P.underlying f1.type = some (.int .i64)) (t2 : P.underlying f2.type = some (.int .i64)) : Opens P tChange t := by
  intro H enc w base spare held fuel cs x h _
  obtain ⟨xs, n, _, rfl, hl, hlen, hf⟩ := DataW.trod_struct ht h
  match xs, hlen with
  | [y0, y1, y2], _ =>
    have h0 := hf 0 f0 rfl
    have h1 := hf 1 f1 rfl
    have h2 := hf 2 f2 rfl
    rw [hc] at hl
    match cs, hl with
    | [a, b, c], _ =>
      simp only [o0, o1, o2, c0, c1, c2, List.drop_zero, List.take_succ_cons, List.take_zero, List.drop_succ_cons] at h0 h1 h2
      obtain ⟨p, e0, _, w0⟩ := DataW.trod_int t0 h0
      obtain ⟨q, e1, _, w1⟩ := DataW.trod_int t1 h1
      obtain ⟨r, e2, _, w2⟩ := DataW.trod_int t2 h2
      simp at e0 e1 e2
      subst e0 e1 e2
      exact ⟨(p, q, r), rfl, i64ok_of_wf w0, i64ok_of_wf w1, i64ok_of_wf w2⟩
theorem fieldsChg : ∃ f0 f1 f2 : Field, Tryz.prog.underlying 59 = some (.struct #[f0, f1, f2]) ∧ f0.offset = 0 ∧ f1.offset = 1 ∧ f2.offset = 2 ∧ f0.type = 3 ∧ f1.type = 3 ∧ f2.type = 3 := by
  obtain ⟨f, g, k, h1, h2, h3, h4⟩ := three_of_map chgFields
  simp only [Prod.mk.injEq] at h2 h3 h4
  have e : Tryz.prog.fieldsOf 59 = #[f, g, k] := by rw [← Array.toList_inj, h1]
  exact ⟨f, g, k, by rw [chgStruct, e], h2.2.1, h3.2.1, h4.2.1, h2.1, h3.1, h4.1⟩
theorem opChange : Opens Tryz.prog tChange 59 := by
  obtain ⟨f0, f1, f2, h, o0, o1, o2, t0, t1, t2⟩ := fieldsChg
  exact Opens.triple h (by kernel_rfl) o0 o1 o2 (by rw [t0]; kernel_rfl) (by rw [t1]; kernel_rfl) (by rw [t2]; kernel_rfl) (by rw [t0]; exact Tryz.underlying3) (by rw [t1]; exact Tryz.underlying3) (by rw [t2]; exact Tryz.underlying3)
theorem opChanges : Opens Tryz.prog tChange.slice 26 := opChange.slice Tryz.underlying26 (by kernel_rfl)

end Go.Pch
end

section
namespace Go.Pch
open Go.RowKit Go.Proofs Go.ChangeShapes Go.WideShapes

theorem four_of_map {α β : Type} {f : α → β} {l : List α} {x y z u : β} (h : l.map f = [x, y, z, u]) : ∃ a b c d, l = [a, b, c, d] ∧ f a = x ∧ f b = y ∧ f c = z ∧ f d = u := by
  match l, h with
  | [a, b, c, d], h => simp at h; exact ⟨a, b, c, d, rfl, h.1, h.2.1, h.2.2.1, h.2.2.2⟩
theorem agg_of_four {v a b c d : Value} (h : v.cells.toList = [a, b, c, d]) : v = .agg #[a, b, c, d] := by
  cases v with
  | agg cs => simp only [Value.cells] at h; rw [← h]
  | _ => simp [Value.cells] at h
theorem actFields : (Tryz.prog.fieldsOf 28).toList.map (fun f => (f.type, f.offset, f.name)) = [(3, 0, "Kind"), (9, 1, "One"), (9, 2, "Two"), (26, 3, "Changes")] := by kernel_rfl
theorem actStruct : Tryz.prog.underlying 28 = some (.struct (Tryz.prog.fieldsOf 28)) := by kernel_rfl
/-- An act, in cells. -/
def ActCells (w : World) (S : Blk) (cs : List Value) (x : Act) : Prop := ∃ vd, cs = [.int .i64 x.1, .string x.2.1, .string x.2.2.1, vd] ∧ i64ok x.1 ∧ x.2.1.size ≤ maxLen ∧ x.2.2.1.size ≤ maxLen ∧ Sl tChange w S vd x.2.2.2
theorem openFour {P : Program} {t : TypeId} {f0 f1 f2 f3 : Field} (ht : P.underlying t = some (.struct #[f0, f1, f2, f3])) (hc : P.cellsOf t = 4) (o0 : f0.offset = 0) (o1 : f1.offset = 1) (o2 : f2.offset = 2) (o3 : f3.offset = 3) (c0 : P.cellsOf f0.type = 1) (c1 : P.cellsOf f1.type = 1) (c2 : P.cellsOf f2.type = 1) (c3 : P.cellsOf f3.type = 1)
    (t0 : P.underlying f0.type = some (.int .i64)) (t1 : P.underlying f1.type = some .string) (t2 : P.underlying f2.type = some .string) (t3 : Opens P tChange.slice f3.type)
    (H : Type) (enc : TypeId × Value → H) (w : World) (base : Nat) (spare : Nat → Bool) (held : Bool) (fuel : Nat) (cs : List Value) (x : DataW H × List MemPlace)
    (h : DataW.trod enc P w base spare held fuel t cs = some x) (hz : w.noneFrozen x.2) : ∃ a, ActCells w (fun _ => True) cs a := by
  obtain ⟨xs, n, _, rfl, hl, hlen, hf⟩ := DataW.trod_struct ht h
  match xs, hlen with
  | [y0, y1, y2, y3], _ =>
    have g0 := hf 0 f0 rfl
    have g1 := hf 1 f1 rfl
    have g2 := hf 2 f2 rfl
    have g3 := hf 3 f3 rfl
    rw [hc] at hl
    match cs, hl with
    | [a, b, c, d], _ =>
      simp only [o0, o1, o2, o3, c0, c1, c2, c3, List.drop_zero, List.take_succ_cons, List.take_zero, List.drop_succ_cons] at g0 g1 g2 g3
      obtain ⟨k, q0, _, w0⟩ := DataW.trod_int t0 g0
      obtain ⟨s, q1, _, w1⟩ := DataW.trod_string t1 g1
      obtain ⟨u, q2, _, w2⟩ := DataW.trod_string t2 g2
      obtain ⟨l, hd⟩ := t3 H enc w base spare held _ _ _ g3 fun b off hm => hz b off (by simp [hm])
      simp at q0 q1 q2
      subst q0 q1 q2
      obtain ⟨a3, n3, c3, hv, r3⟩ := hd
      simp at hv
      subst hv
      exact ⟨(k, s, u, l), _, rfl, i64ok_of_wf w0, w1, w2, a3, n3, c3, rfl, r3⟩
theorem opAct (H : Type) (enc : TypeId × Value → H) (w : World) (base : Nat) (spare : Nat → Bool) (held : Bool) (fuel : Nat) (cs : List Value) (x : DataW H × List MemPlace)
    (h : DataW.trod enc Tryz.prog w base spare held fuel 28 cs = some x) (hz : w.noneFrozen x.2) : ∃ a, ActCells w (fun _ => True) cs a := by
  obtain ⟨f0, f1, f2, f3, e0, h0, h1, h2, h3⟩ := four_of_map actFields
  simp only [Prod.mk.injEq] at h0 h1 h2 h3
  have e : Tryz.prog.fieldsOf 28 = #[f0, f1, f2, f3] := by rw [← Array.toList_inj, e0]
  exact openFour (by rw [actStruct, e]) (by kernel_rfl) h0.2.1 h1.2.1 h2.2.1 h3.2.1 (by rw [h0.1]; kernel_rfl) (by rw [h1.1]; kernel_rfl) (by rw [h2.1]; kernel_rfl) (by rw [h3.1]; kernel_rfl)
    (by rw [h0.1]; exact Tryz.underlying3) (by rw [h1.1]; exact Tryz.underlying9) (by rw [h2.1]; exact Tryz.underlying9) (by rw [h3.1]; exact opChanges) H enc w base spare held fuel cs x h hz
theorem act_of_open {w : World} {S : Blk} {v : Value} {x : Act} (h : ActCells w S v.cells.toList x) : AtAct w S v x := by
  obtain ⟨vd, hv, _, _, _, hd⟩ := h
  exact ⟨vd, agg_of_four hv, hd⟩

end Go.Pch
end

section
namespace Go.Pch
open Go.RowKit Go.Proofs Go.ChangeShapes Go.WideShapes

theorem Opens.pair {P : Program} {α β : Type} {E : Ty α} {F : Ty β} {t : TypeId} {f0 f1 : Field} (ht : P.underlying t = some (.struct #[f0, f1])) (hc : P.cellsOf t = E.size + F.size) (o0 : f0.offset = 0) (o1 : f1.offset = E.size)
    (c0 : P.cellsOf f0.type = E.size) (c1 : P.cellsOf f1.type = F.size) (h0 : Opens P E f0.type) (h1 : Opens P F f1.type) : Opens P (E.pair F) t := by
  intro H enc w base spare held fuel cs x h hz
  obtain ⟨y0, y1, n, rfl, hl, g0, g1⟩ := trod_struct2 ht h
  rw [o0, c0, List.drop_zero] at g0
  rw [o1, c1] at g1
  obtain ⟨a, ha⟩ := h0 H enc w base spare held _ _ _ g0 fun b off hm => hz b off (List.mem_append_left _ hm)
  obtain ⟨b, hb⟩ := h1 H enc w base spare held _ _ _ g1 fun b off hm => hz b off (List.mem_append_right _ hm)
  refine ⟨(a, b), cs.take E.size, (cs.drop E.size).take F.size, ?_, ha, hb⟩
  rw [List.take_of_length_le (l := cs.drop E.size) (by rw [List.length_drop]; omega), List.take_append_drop]

theorem comFields : (Tryz.prog.fieldsOf 42).toList.map (fun f => (f.type, f.offset, f.name)) = [(29, 0, "Rows"), (40, 1, "Parents")] := by kernel_rfl
theorem comStruct : Tryz.prog.underlying 42 = some (.struct (Tryz.prog.fieldsOf 42)) := by kernel_rfl
theorem opInts : Opens Tryz.prog tInt.slice 40 := opInt.slice Tryz.underlying40 (by kernel_rfl)
theorem opCommit : Opens Tryz.prog tCommit 42 := by
  obtain ⟨f, g, h1, h2, h3⟩ := two_of_map comFields
  simp only [Prod.mk.injEq] at h2 h3
  have e : Tryz.prog.fieldsOf 42 = #[f, g] := by rw [← Array.toList_inj, h1]
  exact Opens.pair (by rw [comStruct, e]) (by kernel_rfl) h2.2.1 h3.2.1 (by rw [h2.1]; kernel_rfl) (by rw [h3.1]; kernel_rfl) (by rw [h2.1]; exact opRows) (by rw [h3.1]; exact opInts)
theorem opCommits : Opens Tryz.prog tCommit.slice 22 := opCommit.slice Tryz.underlying22 (by kernel_rfl)

end Go.Pch
end

section
namespace Go.Pch
open Go.RowKit Go.Proofs Go.ChangeShapes Go.WideShapes

theorem headFields : (Tryz.prog.fieldsOf 46).toList.map (fun f => (f.type, f.offset, f.name)) = [(9, 0, "Name"), (3, 1, "At")] := by kernel_rfl
theorem headStruct : Tryz.prog.underlying 46 = some (.struct (Tryz.prog.fieldsOf 46)) := by kernel_rfl
theorem opHead : Opens Tryz.prog tHead 46 := by
  obtain ⟨f, g, h1, h2, h3⟩ := two_of_map headFields
  simp only [Prod.mk.injEq] at h2 h3
  have e : Tryz.prog.fieldsOf 46 = #[f, g] := by rw [← Array.toList_inj, h1]
  have hs : Tryz.prog.underlying 46 = some (.struct #[f, g]) := by rw [headStruct, e]
  have hc : Tryz.prog.cellsOf 46 = 2 := by kernel_rfl
  intro H enc w base spare held fuel cs x h _
  obtain ⟨y0, y1, n, _, hl, g0, g1⟩ := trod_struct2 hs h
  rw [hc] at hl
  have c0 : Tryz.prog.cellsOf 9 = 1 := by kernel_rfl
  have c1 : Tryz.prog.cellsOf 3 = 1 := by kernel_rfl
  rw [h2.1, h2.2.1, c0] at g0
  rw [h3.1, h3.2.1, c1] at g1
  match cs, hl with
  | [a, b], _ =>
    simp only [List.drop_zero, List.take_succ_cons, List.take_zero, List.drop_succ_cons] at g0 g1
    obtain ⟨s, e0, _, w0⟩ := DataW.trod_string Tryz.underlying9 g0
    obtain ⟨q, e1, _, w1⟩ := DataW.trod_int Tryz.underlying3 g1
    simp at e0 e1
    subst e0 e1
    exact ⟨(s, q), rfl, i64ok_of_wf w1, w0⟩
theorem opHeads : Opens Tryz.prog tHead.slice 23 := opHead.slice Tryz.underlying23 (by kernel_rfl)
theorem repoFields : (Tryz.prog.fieldsOf 25).toList.map (fun f => (f.type, f.offset, f.name)) = [(22, 0, "Commits"), (23, 1, "Heads")] := by kernel_rfl
theorem repoStruct : Tryz.prog.underlying 25 = some (.struct (Tryz.prog.fieldsOf 25)) := by kernel_rfl
theorem opRepo : Opens Tryz.prog (tCommit.slice.pair tHead.slice) 25 := by
  obtain ⟨f, g, h1, h2, h3⟩ := two_of_map repoFields
  simp only [Prod.mk.injEq] at h2 h3
  have e : Tryz.prog.fieldsOf 25 = #[f, g] := by rw [← Array.toList_inj, h1]
  exact Opens.pair (by rw [repoStruct, e]) (by kernel_rfl) h2.2.1 h3.2.1 (by rw [h2.1]; kernel_rfl) (by rw [h3.1]; kernel_rfl) (by rw [h2.1]; exact opCommits) (by rw [h3.1]; exact opHeads)
/-- A reading of a repo is a repo. -/
theorem rp_of_open {w : World} {S : Blk} {v : Value} {r : Repo} (h : (tCommit.slice.pair tHead.slice).rd w S v.cells.toList r) : Rp w S v r := by
  obtain ⟨x, y, hv, ⟨a1, n1, c1, rfl, g1⟩, ⟨a2, n2, c2, rfl, g2⟩⟩ := h
  exact ⟨_, _, agg_of_two hv, ⟨a1, n1, c1, rfl, g1⟩, ⟨a2, n2, c2, rfl, g2⟩⟩

end Go.Pch
end
