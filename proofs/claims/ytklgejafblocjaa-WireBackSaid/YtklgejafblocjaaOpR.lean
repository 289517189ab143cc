/- What heads and repos read as. -/
import Derived.Test.YtklgejafblocjaaDagO
import Derived.Test.YtklgejafblocjaaRepD
import Derived.ChangeArms
namespace Go.Pch
open Go.RowKit Go.Proofs Go.ChangeShapes Go.WideShapes

theorem headFields : (Try.prog.fieldsOf 76).toList.map (fun f => (f.type, f.offset, f.name)) = [(9, 0, "Name"), (3, 1, "At")] := by kernel_rfl
theorem headStruct : Try.prog.underlying 76 = some (.struct (Try.prog.fieldsOf 76)) := by kernel_rfl
theorem opHead : Opens Try.prog tHead 76 := by
  obtain ⟨f, g, h1, h2, h3⟩ := two_of_map headFields
  simp only [Prod.mk.injEq] at h2 h3
  have e : Try.prog.fieldsOf 76 = #[f, g] := by rw [← Array.toList_inj, h1]
  have hs : Try.prog.underlying 76 = some (.struct #[f, g]) := by rw [headStruct, e]
  have hc : Try.prog.cellsOf 76 = 2 := by kernel_rfl
  intro H enc w base spare held fuel cs x h
  obtain ⟨y0, y1, n, _, hl, g0, g1⟩ := trod_struct2 hs h
  rw [hc] at hl
  have c0 : Try.prog.cellsOf 9 = 1 := by kernel_rfl
  have c1 : Try.prog.cellsOf 3 = 1 := by kernel_rfl
  rw [h2.1, h2.2.1, c0] at g0
  rw [h3.1, h3.2.1, c1] at g1
  match cs, hl with
  | [a, b], _ =>
    simp only [List.drop_zero, List.take_succ_cons, List.take_zero, List.drop_succ_cons] at g0 g1
    obtain ⟨s, e0, _, w0⟩ := DataW.trod_string Try.underlying9 g0
    obtain ⟨q, e1, _, w1⟩ := DataW.trod_int Try.underlying3 g1
    simp at e0 e1
    subst e0 e1
    exact ⟨(s, q), rfl, i64ok_of_wf w1, w0⟩
theorem opHeads : Opens Try.prog tHead.slice 41 := opHead.slice Try.underlying41 (by kernel_rfl)
theorem repoFields : (Try.prog.fieldsOf 43).toList.map (fun f => (f.type, f.offset, f.name)) = [(22, 0, "Commits"), (41, 1, "Heads")] := by kernel_rfl
theorem repoStruct : Try.prog.underlying 43 = some (.struct (Try.prog.fieldsOf 43)) := by kernel_rfl
theorem opRepo : Opens Try.prog (tCommit.slice.pair tHead.slice) 43 := by
  obtain ⟨f, g, h1, h2, h3⟩ := two_of_map repoFields
  simp only [Prod.mk.injEq] at h2 h3
  have e : Try.prog.fieldsOf 43 = #[f, g] := by rw [← Array.toList_inj, h1]
  exact Opens.pair (by rw [repoStruct, e]) (by kernel_rfl) h2.2.1 h3.2.1 (by rw [h2.1]; kernel_rfl) (by rw [h3.1]; kernel_rfl) (by rw [h2.1]; exact opCommits) (by rw [h3.1]; exact opHeads)
/-- A reading of a repo is a repo. -/
theorem rp_of_open {w : World} {S : Blk} {v : Value} {r : Repo} (h : (tCommit.slice.pair tHead.slice).rd w S v.cells.toList r) : Rp w S v r := by
  obtain ⟨x, y, hv, ⟨a1, n1, c1, rfl, g1⟩, ⟨a2, n2, c2, rfl, g2⟩⟩ := h
  exact ⟨_, _, agg_of_two hv, ⟨a1, n1, c1, rfl, g1⟩, ⟨a2, n2, c2, rfl, g2⟩⟩

end Go.Pch
