/- From a row's data to what a value reads as; no program is named here. What the program's types read as. What commits read as. What heads and repos read as. -/
import Derived.Test.YtdclpbdmdpakkaaGreatWm3
import Derived.ProofKit
import Derived.OpenShut
import Derived.Deep.Slices
import Derived.ChangeSame
import Derived.Test.YtdclpbdmdpakkaaGreatWm15
import Derived.Test.YtdclpbdmdpakkaaGreatWm4
import Derived.Test.YtdclpbdmdpakkaaGreatWm5
import Derived.ChangeArms
section
namespace Go.Pch
open Go.RowKit Go.ChangeShapes Go.WideShapes

/-- Whatever reads as data of type t reads as E says. -/
def Opens (P : Program) {α : Type} (E : Ty α) (t : TypeId) : Prop :=
  ∀ (H : Type) (enc : TypeId × Value → H) (w : World) (base : Nat) (spare : Nat → Bool) (held : Bool) (fuel : Nat) (cs : List Value) (x : DataW H × List MemPlace),
    DataW.trod enc P w base spare held fuel t cs = some x → ∃ a, E.rd w (fun _ => True) cs a

theorem i64ok_of_wf {n : Int} (h : (Lit.int .i64 n).wf = true) : i64ok n := by
  simp only [Lit.wf, IntKind.min, IntKind.max, IntKind.signed, IntKind.bits, Bool.and_eq_true, decide_eq_true_eq, if_true] at h
  unfold i64ok
  omega

theorem Opens.int {P : Program} {t : TypeId} (ht : P.underlying t = some (.int .i64)) : Opens P tInt t := by
  intro H enc w base spare held fuel cs x h
  obtain ⟨n, rfl, _, hw⟩ := DataW.trod_int ht h
  exact ⟨n, rfl, i64ok_of_wf hw⟩

theorem Opens.row {P : Program} {t : TypeId} {f0 f1 : Field} (ht : P.underlying t = some (.struct #[f0, f1])) (hc : P.cellsOf t = 2) (o0 : f0.offset = 0) (o1 : f1.offset = 1) (c0 : P.cellsOf f0.type = 1) (c1 : P.cellsOf f1.type = 1)
    (t0 : P.underlying f0.type = some (.int .i64)) (t1 : P.underlying f1.type = some (.int .i64)) : Opens P tRow t := by
  intro H enc w base spare held fuel cs x h
  obtain ⟨y0, y1, n, _, hl, h0, h1⟩ := trod_struct2 ht h
  rw [hc] at hl
  match cs, hl with
  | [a, b], _ =>
    simp only [o0, o1, c0, c1, List.drop_zero, List.take_succ_cons, List.take_zero, List.drop_succ_cons] at h0 h1
    obtain ⟨p, e0, _, w0⟩ := DataW.trod_int t0 h0
    obtain ⟨q, e1, _, w1⟩ := DataW.trod_int t1 h1
    simp at e0 e1
    subst e0 e1
    exact ⟨(p, q), rfl, i64ok_of_wf w0, i64ok_of_wf w1⟩

theorem Opens.slice {P : Program} {α : Type} {E : Ty α} {t e : TypeId} (hE : Opens P E e) (ht : P.underlying t = some (.slice e)) (hc : P.cellsOf e = E.size) : Opens P E.slice t := by
  intro H enc w base spare held fuel cs x h
  rcases Deep.open_slice ht h with ⟨rfl, _⟩ | ⟨a, len, cap, m, n, D, Pl, rfl, hb, hl, hm, hmm, rfl, hx⟩
  · exact ⟨[], Sl.nil E w _⟩
  · have hlm : len ≤ m := by rw [hmm]; split <;> omega
    have each : ∀ i, i < len → ∃ q : List Value × α, E.rd w (fun _ => True) q.1 q.2 ∧ ∀ j u, q.1[j]? = some u → w.cell? (a.add (i * E.size + j)) = some u := by
      intro i hi
      obtain ⟨cs', h1, h2⟩ := hx i (by omega)
      rw [hc] at h1
      obtain ⟨_, hlen, hcell⟩ := World.cells?_some h1
      obtain ⟨b, hrd⟩ := hE H enc w base spare held n cs' _ h2
      refine ⟨(cs', b), hrd, fun j u hj => ?_⟩
      obtain ⟨hjl, rfl⟩ := List.getElem?_eq_some_iff.1 hj
      have hjl' : j < cs'.length := hjl
      have := hcell j (by omega)
      rw [Deep.add_add] at this
      rw [this]
      simp [hjl]
    by_cases h0 : len = 0
    · subst h0
      exact ⟨[], some a, 0, cap, rfl, rfl, Nat.zero_le _, hm, by simp, by simp⟩
    · obtain ⟨q0, hr0, hc0⟩ := each 0 (by omega)
      have hne : ∃ u, q0.1[0]? = some u := by
        have := E.len hr0; have := E.pos
        exact ⟨q0.1[0], List.getElem?_eq_getElem (by omega)⟩
      obtain ⟨u0, hu0⟩ := hne
      have hcell0 := hc0 0 u0 hu0
      obtain ⟨b, o, spot⟩ := a
      have hspot : spot = none := by simpa [Addr.add] using World.cell?_spot hcell0
      subst hspot
      have each' : ∀ i (x : Unit), (List.replicate len ())[i]? = some x → ∃ q : List Value × α, E.rd w (fun _ => True) q.1 q.2 ∧ ∀ j u, q.1[j]? = some u → w.cell? ⟨b, o + i * E.size + j, none⟩ = some u := by
        intro i x hi
        have hlt : i < len := by simpa using (List.getElem?_eq_some_iff.1 hi).1
        obtain ⟨q, h1, h2⟩ := each i hlt
        exact ⟨q, h1, fun j u hj => by have := h2 j u hj; rwa [Addr.add_lit, ← Nat.add_assoc] at this⟩
      obtain ⟨qs, hql, hq⟩ := exists_list (List.replicate len ()) each'
      rw [List.length_replicate] at hql
      refine ⟨qs.map (·.2), some ⟨b, o, none⟩, len, cap, rfl, by simp [hql], hl, hm, by simp, fun i x hi => ⟨b, o, rfl, trivial, ?_⟩⟩
      rw [List.getElem?_map] at hi
      obtain ⟨q, hqi, rfl⟩ := Option.map_eq_some_iff.1 hi
      have hlt : i < len := by have := (List.getElem?_eq_some_iff.1 hqi).1; omega
      have := hq i q () hqi (by simp [hlt])
      exact ⟨q.1, this.1, this.2⟩

end Go.Pch
end

section
namespace Go.Pch
open Go.RowKit Go.Proofs

theorem agg_of_two {v a b : Value} (h : v.cells.toList = [a, b]) : v = .agg #[a, b] := by
  cases v with
  | agg cs => simp only [Value.cells] at h; rw [← h]
  | _ => simp [Value.cells] at h

theorem fieldsRow : ∃ f0 f1 : Field, Tryz.prog.underlying 115 = some (.struct #[f0, f1]) ∧ f0.offset = 0 ∧ f1.offset = 1 ∧ f0.type = 3 ∧ f1.type = 3 := by
  obtain ⟨f, g, h1, h2, h3⟩ := two_of_map rowFields
  simp only [Prod.mk.injEq] at h2 h3
  have e : Tryz.prog.fieldsOf 115 = #[f, g] := by rw [← Array.toList_inj, h1]
  exact ⟨f, g, by rw [rowStruct, e], h2.2.1, h3.2.1, h2.1, h3.1⟩
theorem opInt : Opens Tryz.prog tInt 3 := Opens.int Tryz.underlying3
theorem opRow : Opens Tryz.prog tRow 115 := by
  obtain ⟨f0, f1, h, o0, o1, t0, t1⟩ := fieldsRow
  exact Opens.row h (by kernel_rfl) o0 o1 (by rw [t0]; kernel_rfl) (by rw [t1]; kernel_rfl) (by rw [t0]; exact Tryz.underlying3) (by rw [t1]; exact Tryz.underlying3)
theorem opRows : Opens Tryz.prog tRow.slice 64 := opRow.slice Tryz.underlying64 (by kernel_rfl)
theorem opLevel : Opens Tryz.prog tRow.slice.slice 109 := opRows.slice Tryz.underlying109 (by kernel_rfl)

end Go.Pch
end

section
namespace Go.Pch
open Go.RowKit Go.Proofs Go.ChangeShapes Go.WideShapes

theorem Opens.pair {P : Program} {α β : Type} {E : Ty α} {F : Ty β} {t : TypeId} {f0 f1 : Field} (ht : P.underlying t = some (.struct #[f0, f1])) (hc : P.cellsOf t = E.size + F.size) (o0 : f0.offset = 0) (o1 : f1.offset = E.size)
    (c0 : P.cellsOf f0.type = E.size) (c1 : P.cellsOf f1.type = F.size) (h0 : Opens P E f0.type) (h1 : Opens P F f1.type) : Opens P (E.pair F) t := by
  intro H enc w base spare held fuel cs x h
  obtain ⟨y0, y1, n, _, hl, g0, g1⟩ := trod_struct2 ht h
  rw [o0, c0, List.drop_zero] at g0
  rw [o1, c1] at g1
  obtain ⟨a, ha⟩ := h0 H enc w base spare held _ _ _ g0
  obtain ⟨b, hb⟩ := h1 H enc w base spare held _ _ _ g1
  refine ⟨(a, b), cs.take E.size, (cs.drop E.size).take F.size, ?_, ha, hb⟩
  rw [List.take_of_length_le (l := cs.drop E.size) (by rw [List.length_drop]; omega), List.take_append_drop]

theorem comFields : (Tryz.prog.fieldsOf 67).toList.map (fun f => (f.type, f.offset, f.name)) = [(64, 0, "Rows"), (26, 1, "Parents")] := by kernel_rfl
theorem comStruct : Tryz.prog.underlying 67 = some (.struct (Tryz.prog.fieldsOf 67)) := by kernel_rfl
theorem opInts : Opens Tryz.prog tInt.slice 26 := opInt.slice Tryz.underlying26 (by kernel_rfl)
theorem opCommit : Opens Tryz.prog tCommit 67 := by
  obtain ⟨f, g, h1, h2, h3⟩ := two_of_map comFields
  simp only [Prod.mk.injEq] at h2 h3
  have e : Tryz.prog.fieldsOf 67 = #[f, g] := by rw [← Array.toList_inj, h1]
  exact Opens.pair (by rw [comStruct, e]) (by kernel_rfl) h2.2.1 h3.2.1 (by rw [h2.1]; kernel_rfl) (by rw [h3.1]; kernel_rfl) (by rw [h2.1]; exact opRows) (by rw [h3.1]; exact opInts)
theorem opCommits : Opens Tryz.prog tCommit.slice 22 := opCommit.slice Tryz.underlying22 (by kernel_rfl)

end Go.Pch
end

section
namespace Go.Pch
open Go.RowKit Go.Proofs Go.ChangeShapes Go.WideShapes

theorem headFields : (Tryz.prog.fieldsOf 59).toList.map (fun f => (f.type, f.offset, f.name)) = [(9, 0, "Name"), (3, 1, "At")] := by kernel_rfl
theorem headStruct : Tryz.prog.underlying 59 = some (.struct (Tryz.prog.fieldsOf 59)) := by kernel_rfl
theorem opHead : Opens Tryz.prog tHead 59 := by
  obtain ⟨f, g, h1, h2, h3⟩ := two_of_map headFields
  simp only [Prod.mk.injEq] at h2 h3
  have e : Tryz.prog.fieldsOf 59 = #[f, g] := by rw [← Array.toList_inj, h1]
  have hs : Tryz.prog.underlying 59 = some (.struct #[f, g]) := by rw [headStruct, e]
  have hc : Tryz.prog.cellsOf 59 = 2 := by kernel_rfl
  intro H enc w base spare held fuel cs x h
  obtain ⟨y0, y1, n, _, hl, g0, g1⟩ := trod_struct2 hs h
  rw [hc] at hl
  have c0 : Tryz.prog.cellsOf 9 = 1 := by kernel_rfl
  have c1 : Tryz.prog.cellsOf 3 = 1 := by kernel_rfl
  rw [h2.1, h2.2.1, c0] at g0
  rw [h3.1, h3.2.1, c1] at g1
  match cs, hl with
  | [a, b], _ =>
    simp only [List.drop_zero, List.take_succ_cons, List.take_zero, List.drop_succ_cons] at g0 g1
    obtain ⟨s, e0, _, w0⟩ := DataW.trod_string Tryz.underlying9 g0
    obtain ⟨q, e1, _, w1⟩ := DataW.trod_int Tryz.underlying3 g1
    simp at e0 e1
    subst e0 e1
    exact ⟨(s, q), rfl, i64ok_of_wf w1, w0⟩
theorem opHeads : Opens Tryz.prog tHead.slice 23 := opHead.slice Tryz.underlying23 (by kernel_rfl)
theorem repoFields : (Tryz.prog.fieldsOf 25).toList.map (fun f => (f.type, f.offset, f.name)) = [(22, 0, "Commits"), (23, 1, "Heads")] := by kernel_rfl
theorem repoStruct : Tryz.prog.underlying 25 = some (.struct (Tryz.prog.fieldsOf 25)) := by kernel_rfl
theorem opRepo : Opens Tryz.prog (tCommit.slice.pair tHead.slice) 25 := by
  obtain ⟨f, g, h1, h2, h3⟩ := two_of_map repoFields
  simp only [Prod.mk.injEq] at h2 h3
  have e : Tryz.prog.fieldsOf 25 = #[f, g] := by rw [← Array.toList_inj, h1]
  exact Opens.pair (by rw [repoStruct, e]) (by kernel_rfl) h2.2.1 h3.2.1 (by rw [h2.1]; kernel_rfl) (by rw [h3.1]; kernel_rfl) (by rw [h2.1]; exact opCommits) (by rw [h3.1]; exact opHeads)
/-- A reading of a repo is a repo. -/
theorem rp_of_open {w : World} {S : Blk} {v : Value} {r : Repo} (h : (tCommit.slice.pair tHead.slice).rd w S v.cells.toList r) : Rp w S v r := by
  obtain ⟨x, y, hv, ⟨a1, n1, c1, rfl, g1⟩, ⟨a2, n2, c2, rfl, g2⟩⟩ := h
  exact ⟨_, _, agg_of_two hv, ⟨a1, n1, c1, rfl, g1⟩, ⟨a2, n2, c2, rfl, g2⟩⟩

end Go.Pch
end
