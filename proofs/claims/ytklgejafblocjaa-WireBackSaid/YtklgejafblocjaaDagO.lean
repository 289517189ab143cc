/- What commits read as. -/
import Derived.Test.YtklgejafblocjaaOp
import Derived.Test.YtklgejafblocjaaDagB
namespace Go.Pch
open Go.RowKit Go.Proofs Go.ChangeShapes Go.WideShapes

theorem Opens.pair {P : Program} {α β : Type} {E : Ty α} {F : Ty β} {t : TypeId} {f0 f1 : Field} (ht : P.underlying t = some (.struct #[f0, f1])) (hc : P.cellsOf t = E.size + F.size) (o0 : f0.offset = 0) (o1 : f1.offset = E.size)
    (c0 : P.cellsOf f0.type = E.size) (c1 : P.cellsOf f1.type = F.size) (h0 : Opens P E f0.type) (h1 : Opens P F f1.type) : Opens P (E.pair F) t := by
  intro H enc w base spare held fuel cs x h
  obtain ⟨y0, y1, n, _, hl, g0, g1⟩ := trod_struct2 ht h
  rw [o0, c0, List.drop_zero] at g0
  rw [o1, c1] at g1
  obtain ⟨a, ha⟩ := h0 H enc w base spare held _ _ _ g0
  obtain ⟨b, hb⟩ := h1 H enc w base spare held _ _ _ g1
  refine ⟨(a, b), cs.take E.size, (cs.drop E.size).take F.size, ?_, ha, hb⟩
  rw [List.take_of_length_le (l := cs.drop E.size) (by rw [List.length_drop]; omega), List.take_append_drop]

theorem comFields : (Try.prog.fieldsOf 65).toList.map (fun f => (f.type, f.offset, f.name)) = [(63, 0, "Rows"), (33, 1, "Parents")] := by kernel_rfl
theorem comStruct : Try.prog.underlying 65 = some (.struct (Try.prog.fieldsOf 65)) := by kernel_rfl
theorem opInts : Opens Try.prog tInt.slice 33 := opInt.slice Try.underlying33 (by kernel_rfl)
theorem opCommit : Opens Try.prog tCommit 65 := by
  obtain ⟨f, g, h1, h2, h3⟩ := two_of_map comFields
  simp only [Prod.mk.injEq] at h2 h3
  have e : Try.prog.fieldsOf 65 = #[f, g] := by rw [← Array.toList_inj, h1]
  exact Opens.pair (by rw [comStruct, e]) (by kernel_rfl) h2.2.1 h3.2.1 (by rw [h2.1]; kernel_rfl) (by rw [h3.1]; kernel_rfl) (by rw [h2.1]; exact opRows) (by rw [h3.1]; exact opInts)
theorem opCommits : Opens Try.prog tCommit.slice 22 := opCommit.slice Try.underlying22 (by kernel_rfl)

end Go.Pch
