/- From a row's data to what a value reads as; no program is named here. What the program's types read as. What commits read as. What heads and repos read as. Changes, read from data. -/
import Derived.Test.YtdclpbdmdpakkaaWa3
import Derived.ProofKit
import Derived.OpenShut
import Derived.Deep.Slices
import Derived.ChangeSame
import Derived.Test.YtdclpbdmdpakkaaWa15
import Derived.Test.YtdclpbdmdpakkaaWa4
import Derived.Test.YtdclpbdmdpakkaaWa5
import Derived.ChangeArms
import Derived.Test.YtdclpbdmdpakkaaWa16
section
namespace Go.Pch
open Go.RowKit Go.ChangeShapes Go.WideShapes

/-- Whatever reads as data of type t reads as E says. -/
def Opens (P : Program) {α : Type} (E : Ty α) (t : TypeId) : Prop :=
  ∀ (H : Type) (enc : TypeId × Value → H) (w : World) (base : Nat) (spare : Nat → Bool) (held : Bool) (fuel : Nat) (cs : List Value) (x : DataW H × List MemPlace),
    DataW.trod enc P w base spare held fuel t cs = some x → ∃ a, E.rd w (fun _ => True) cs a

theorem i64ok_of_wf {n : Int} (h : (Lit.int .i64 n).wf = true) : i64ok n := by
  simp only [Lit.wf, IntKind.min, IntKind.max, IntKind.signed, IntKind.bits, Bool.and_eq_true, decide_eq_true_eq, if_true] at h
  unfold i64ok
  omega

theorem Opens.int {P : Program} {t : TypeId} (ht : P.underlying t = some (.int .i64)) : Opens P tInt t := by
  intro H enc w base spare held fuel cs x h
  obtain ⟨n, rfl, _, hw⟩ := DataW.trod_int ht h
  exact ⟨n, rfl, i64ok_of_wf hw⟩

theorem Opens.row {P : Program} {t : TypeId} {f0 f1 : Field} (ht : P.underlying t = some (.struct #[f0, f1])) (hc : P.cellsOf t = 2) (o0 : f0.offset = 0) (o1 : f1.offset = 1) (c0 : P.cellsOf f0.type = 1) (c1 : P.cellsOf f1.type = 1)
    (t0 : P.underlying f0.type = some (.int .i64)) (t1 : P.underlying f1.type = some (.int .i64)) : Opens P tRow t := by
  intro H enc w base spare held fuel cs x h
  obtain ⟨y0, y1, n, _, hl, h0, h1⟩ := trod_struct2 ht h
  rw [hc] at hl
  match cs, hl with
  | [a, b], _ =>
    simp only [o0, o1, c0, c1, List.drop_zero, List.take_succ_cons, List.take_zero, List.drop_succ_cons] at h0 h1
    obtain ⟨p, e0, _, w0⟩ := DataW.trod_int t0 h0
    obtain ⟨q, e1, _, w1⟩ := DataW.trod_int t1 h1
    simp at e0 e1
    subst e0 e1
    exact ⟨(p, q), rfl, i64ok_of_wf w0, i64ok_of_wf w1⟩

theorem Opens.slice {P : Program} {α : Type} {E : Ty α} {t e : TypeId} (hE : Opens P E e) (ht : P.underlying t = some (.slice e)) (hc : P.cellsOf e = E.size) : Opens P E.slice t := by
  intro H enc w base spare held fuel cs x h
  rcases Deep.open_slice ht h with ⟨rfl, _⟩ | ⟨a, len, cap, m, n, D, Pl, rfl, hb, hl, hm, hmm, rfl, hx⟩
  · exact ⟨[], Sl.nil E w _⟩
  · have hlm : len ≤ m := by rw [hmm]; split <;> omega
    have each : ∀ i, i < len → ∃ q : List Value × α, E.rd w (fun _ => True) q.1 q.2 ∧ ∀ j u, q.1[j]? = some u → w.cell? (a.add (i * E.size + j)) = some u := by
      intro i hi
      obtain ⟨cs', h1, h2⟩ := hx i (by omega)
      rw [hc] at h1
      obtain ⟨_, hlen, hcell⟩ := World.cells?_some h1
      obtain ⟨b, hrd⟩ := hE H enc w base spare held n cs' _ h2
      refine ⟨(cs', b), hrd, fun j u hj => ?_⟩
      obtain ⟨hjl, rfl⟩ := List.getElem?_eq_some_iff.1 hj
      have hjl' : j < cs'.length := hjl
      have := hcell j (by omega)
      rw [Deep.add_add] at this
      rw [this]
      simp [hjl]
    by_cases h0 : len = 0
    · subst h0
      exact ⟨[], some a, 0, cap, rfl, rfl, Nat.zero_le _, hm, by simp, by simp⟩
    · obtain ⟨q0, hr0, hc0⟩ := each 0 (by omega)
      have hne : ∃ u, q0.1[0]? = some u := by
        have := E.len hr0; have := E.pos
        exact ⟨q0.1[0], List.getElem?_eq_getElem (by omega)⟩
      obtain ⟨u0, hu0⟩ := hne
      have hcell0 := hc0 0 u0 hu0
      obtain ⟨b, o, spot⟩ := a
      have hspot : spot = none := by simpa [Addr.add] using World.cell?_spot hcell0
      subst hspot
      have each' : ∀ i (x : Unit), (List.replicate len ())[i]? = some x → ∃ q : List Value × α, E.rd w (fun _ => True) q.1 q.2 ∧ ∀ j u, q.1[j]? = some u → w.cell? ⟨b, o + i * E.size + j, none⟩ = some u := by
        intro i x hi
        have hlt : i < len := by simpa using (List.getElem?_eq_some_iff.1 hi).1
        obtain ⟨q, h1, h2⟩ := each i hlt
        exact ⟨q, h1, fun j u hj => by have := h2 j u hj; rwa [Addr.add_lit, ← Nat.add_assoc] at this⟩
      obtain ⟨qs, hql, hq⟩ := exists_list (List.replicate len ()) each'
      rw [List.length_replicate] at hql
      refine ⟨qs.map (·.2), some ⟨b, o, none⟩, len, cap, rfl, by simp [hql], hl, hm, by simp, fun i x hi => ⟨b, o, rfl, trivial, ?_⟩⟩
      rw [List.getElem?_map] at hi
      obtain ⟨q, hqi, rfl⟩ := Option.map_eq_some_iff.1 hi
      have hlt : i < len := by have := (List.getElem?_eq_some_iff.1 hqi).1; omega
      have := hq i q () hqi (by simp [hlt])
      exact ⟨q.1, this.1, this.2⟩

end Go.Pch
end

section
namespace Go.Pch
open Go.RowKit Go.Proofs

theorem agg_of_two {v a b : Value} (h : v.cells.toList = [a, b]) : v = .agg #[a, b] := by
  cases v with
  | agg cs => simp only [Value.cells] at h; rw [← h]
  | _ => simp [Value.cells] at h

theorem fieldsRow : ∃ f0 f1 : Field, Try.prog.underlying 88 = some (.struct #[f0, f1]) ∧ f0.offset = 0 ∧ f1.offset = 1 ∧ f0.type = 3 ∧ f1.type = 3 := by
  obtain ⟨f, g, h1, h2, h3⟩ := two_of_map rowFields
  simp only [Prod.mk.injEq] at h2 h3
  have e : Try.prog.fieldsOf 88 = #[f, g] := by rw [← Array.toList_inj, h1]
  exact ⟨f, g, by rw [rowStruct, e], h2.2.1, h3.2.1, h2.1, h3.1⟩
theorem opInt : Opens Try.prog tInt 3 := Opens.int Try.underlying3
theorem opRow : Opens Try.prog tRow 88 := by
  obtain ⟨f0, f1, h, o0, o1, t0, t1⟩ := fieldsRow
  exact Opens.row h (by kernel_rfl) o0 o1 (by rw [t0]; kernel_rfl) (by rw [t1]; kernel_rfl) (by rw [t0]; exact Try.underlying3) (by rw [t1]; exact Try.underlying3)
theorem opRows : Opens Try.prog tRow.slice 41 := opRow.slice Try.underlying41 (by kernel_rfl)
theorem opLevel : Opens Try.prog tRow.slice.slice 131 := opRows.slice Try.underlying131 (by kernel_rfl)

end Go.Pch
end

section
namespace Go.Pch
open Go.RowKit Go.Proofs Go.ChangeShapes Go.WideShapes

theorem Opens.pair {P : Program} {α β : Type} {E : Ty α} {F : Ty β} {t : TypeId} {f0 f1 : Field} (ht : P.underlying t = some (.struct #[f0, f1])) (hc : P.cellsOf t = E.size + F.size) (o0 : f0.offset = 0) (o1 : f1.offset = E.size)
    (c0 : P.cellsOf f0.type = E.size) (c1 : P.cellsOf f1.type = F.size) (h0 : Opens P E f0.type) (h1 : Opens P F f1.type) : Opens P (E.pair F) t := by
  intro H enc w base spare held fuel cs x h
  obtain ⟨y0, y1, n, _, hl, g0, g1⟩ := trod_struct2 ht h
  rw [o0, c0, List.drop_zero] at g0
  rw [o1, c1] at g1
  obtain ⟨a, ha⟩ := h0 H enc w base spare held _ _ _ g0
  obtain ⟨b, hb⟩ := h1 H enc w base spare held _ _ _ g1
  refine ⟨(a, b), cs.take E.size, (cs.drop E.size).take F.size, ?_, ha, hb⟩
  rw [List.take_of_length_le (l := cs.drop E.size) (by rw [List.length_drop]; omega), List.take_append_drop]

theorem comFields : (Try.prog.fieldsOf 44).toList.map (fun f => (f.type, f.offset, f.name)) = [(41, 0, "Rows"), (42, 1, "Parents")] := by kernel_rfl
theorem comStruct : Try.prog.underlying 44 = some (.struct (Try.prog.fieldsOf 44)) := by kernel_rfl
theorem opInts : Opens Try.prog tInt.slice 42 := opInt.slice Try.underlying42 (by kernel_rfl)
theorem opCommit : Opens Try.prog tCommit 44 := by
  obtain ⟨f, g, h1, h2, h3⟩ := two_of_map comFields
  simp only [Prod.mk.injEq] at h2 h3
  have e : Try.prog.fieldsOf 44 = #[f, g] := by rw [← Array.toList_inj, h1]
  exact Opens.pair (by rw [comStruct, e]) (by kernel_rfl) h2.2.1 h3.2.1 (by rw [h2.1]; kernel_rfl) (by rw [h3.1]; kernel_rfl) (by rw [h2.1]; exact opRows) (by rw [h3.1]; exact opInts)
theorem opCommits : Opens Try.prog tCommit.slice 22 := opCommit.slice Try.underlying22 (by kernel_rfl)

end Go.Pch
end

section
namespace Go.Pch
open Go.RowKit Go.Proofs Go.ChangeShapes Go.WideShapes

theorem headFields : (Try.prog.fieldsOf 78).toList.map (fun f => (f.type, f.offset, f.name)) = [(9, 0, "Name"), (3, 1, "At")] := by kernel_rfl
theorem headStruct : Try.prog.underlying 78 = some (.struct (Try.prog.fieldsOf 78)) := by kernel_rfl
theorem opHead : Opens Try.prog tHead 78 := by
  obtain ⟨f, g, h1, h2, h3⟩ := two_of_map headFields
  simp only [Prod.mk.injEq] at h2 h3
  have e : Try.prog.fieldsOf 78 = #[f, g] := by rw [← Array.toList_inj, h1]
  have hs : Try.prog.underlying 78 = some (.struct #[f, g]) := by rw [headStruct, e]
  have hc : Try.prog.cellsOf 78 = 2 := by kernel_rfl
  intro H enc w base spare held fuel cs x h
  obtain ⟨y0, y1, n, _, hl, g0, g1⟩ := trod_struct2 hs h
  rw [hc] at hl
  have c0 : Try.prog.cellsOf 9 = 1 := by kernel_rfl
  have c1 : Try.prog.cellsOf 3 = 1 := by kernel_rfl
  rw [h2.1, h2.2.1, c0] at g0
  rw [h3.1, h3.2.1, c1] at g1
  match cs, hl with
  | [a, b], _ =>
    simp only [List.drop_zero, List.take_succ_cons, List.take_zero, List.drop_succ_cons] at g0 g1
    obtain ⟨s, e0, _, w0⟩ := DataW.trod_string Try.underlying9 g0
    obtain ⟨q, e1, _, w1⟩ := DataW.trod_int Try.underlying3 g1
    simp at e0 e1
    subst e0 e1
    exact ⟨(s, q), rfl, i64ok_of_wf w1, w0⟩
theorem opHeads : Opens Try.prog tHead.slice 23 := opHead.slice Try.underlying23 (by kernel_rfl)
theorem repoFields : (Try.prog.fieldsOf 25).toList.map (fun f => (f.type, f.offset, f.name)) = [(22, 0, "Commits"), (23, 1, "Heads")] := by kernel_rfl
theorem repoStruct : Try.prog.underlying 25 = some (.struct (Try.prog.fieldsOf 25)) := by kernel_rfl
theorem opRepo : Opens Try.prog (tCommit.slice.pair tHead.slice) 25 := by
  obtain ⟨f, g, h1, h2, h3⟩ := two_of_map repoFields
  simp only [Prod.mk.injEq] at h2 h3
  have e : Try.prog.fieldsOf 25 = #[f, g] := by rw [← Array.toList_inj, h1]
  exact Opens.pair (by rw [repoStruct, e]) (by kernel_rfl) h2.2.1 h3.2.1 (by rw [h2.1]; kernel_rfl) (by rw [h3.1]; kernel_rfl) (by rw [h2.1]; exact opCommits) (by rw [h3.1]; exact opHeads)
/-- A reading of a repo is a repo. -/
theorem rp_of_open {w : World} {S : Blk} {v : Value} {r : Repo} (h : (tCommit.slice.pair tHead.slice).rd w S v.cells.toList r) : Rp w S v r := by
  obtain ⟨x, y, hv, ⟨a1, n1, c1, rfl, g1⟩, ⟨a2, n2, c2, rfl, g2⟩⟩ := h
  exact ⟨_, _, agg_of_two hv, ⟨a1, n1, c1, rfl, g1⟩, ⟨a2, n2, c2, rfl, g2⟩⟩

end Go.Pch
end

section
namespace Go.Pch
open Go.RowKit Go.Proofs Go.ChangeShapes Go.WideShapes

theorem Opens.triple {P : Program} {t : TypeId} {f0 f1 f2 : Field} (ht : P.underlying t = some (.struct #[f0, f1, f2])) (hc : P.cellsOf t = 3) (o0 : f0.offset = 0) (o1 : f1.offset = 1) (o2 : f2.offset = 2) (c0 : P.cellsOf f0.type = 1) (c1 : P.cellsOf f1.type = 1) (c2 : P.cellsOf f2.type = 1)
    (t0 : P.underlying f0.type = some (.int .i64)) (t1 : P.underlying f1.type = some (.int .i64)) (t2 : P.underlying f2.type = some (.int .i64)) : Opens P tChange t := by
  intro H enc w base spare held fuel cs x h
  obtain ⟨xs, n, _, rfl, hl, hlen, hf⟩ := DataW.trod_struct ht h
  match xs, hlen with
  | [y0, y1, y2], _ =>
    have h0 := hf 0 f0 rfl
    have h1 := hf 1 f1 rfl
    have h2 := hf 2 f2 rfl
    rw [hc] at hl
    match cs, hl with
    | [a, b, c], _ =>
      simp only [o0, o1, o2, c0, c1, c2, List.drop_zero, List.take_succ_cons, List.take_zero, List.drop_succ_cons] at h0 h1 h2
      obtain ⟨p, e0, _, w0⟩ := DataW.trod_int t0 h0
      obtain ⟨q, e1, _, w1⟩ := DataW.trod_int t1 h1
      obtain ⟨r, e2, _, w2⟩ := DataW.trod_int t2 h2
      simp at e0 e1 e2
      subst e0 e1 e2
      exact ⟨(p, q, r), rfl, i64ok_of_wf w0, i64ok_of_wf w1, i64ok_of_wf w2⟩
theorem fieldsChg : ∃ f0 f1 f2 : Field, Try.prog.underlying 76 = some (.struct #[f0, f1, f2]) ∧ f0.offset = 0 ∧ f1.offset = 1 ∧ f2.offset = 2 ∧ f0.type = 3 ∧ f1.type = 3 ∧ f2.type = 3 := by
  obtain ⟨f, g, k, h1, h2, h3, h4⟩ := three_of_map chgFields
  simp only [Prod.mk.injEq] at h2 h3 h4
  have e : Try.prog.fieldsOf 76 = #[f, g, k] := by rw [← Array.toList_inj, h1]
  exact ⟨f, g, k, by rw [chgStruct, e], h2.2.1, h3.2.1, h4.2.1, h2.1, h3.1, h4.1⟩
theorem opChange : Opens Try.prog tChange 76 := by
  obtain ⟨f0, f1, f2, h, o0, o1, o2, t0, t1, t2⟩ := fieldsChg
  exact Opens.triple h (by kernel_rfl) o0 o1 o2 (by rw [t0]; kernel_rfl) (by rw [t1]; kernel_rfl) (by rw [t2]; kernel_rfl) (by rw [t0]; exact Try.underlying3) (by rw [t1]; exact Try.underlying3) (by rw [t2]; exact Try.underlying3)
theorem opChanges : Opens Try.prog tChange.slice 26 := opChange.slice Try.underlying26 (by kernel_rfl)

end Go.Pch
end
