/- What the program's types read as. -/
import Derived.Test.YtklgejafblocjaaOpen
import Derived.Test.YtklgejafblocjaaRowT
namespace Go.Pch
open Go.RowKit Go.Proofs

theorem agg_of_two {v a b : Value} (h : v.cells.toList = [a, b]) : v = .agg #[a, b] := by
  cases v with
  | agg cs => simp only [Value.cells] at h; rw [← h]
  | _ => simp [Value.cells] at h

theorem fieldsRow : ∃ f0 f1 : Field, Try.prog.underlying 74 = some (.struct #[f0, f1]) ∧ f0.offset = 0 ∧ f1.offset = 1 ∧ f0.type = 3 ∧ f1.type = 3 := by
  obtain ⟨f, g, h1, h2, h3⟩ := two_of_map rowFields
  simp only [Prod.mk.injEq] at h2 h3
  have e : Try.prog.fieldsOf 74 = #[f, g] := by rw [← Array.toList_inj, h1]
  exact ⟨f, g, by rw [rowStruct, e], h2.2.1, h3.2.1, h2.1, h3.1⟩
theorem opInt : Opens Try.prog tInt 3 := Opens.int Try.underlying3
theorem opRow : Opens Try.prog tRow 74 := by
  obtain ⟨f0, f1, h, o0, o1, t0, t1⟩ := fieldsRow
  exact Opens.row h (by kernel_rfl) o0 o1 (by rw [t0]; kernel_rfl) (by rw [t1]; kernel_rfl) (by rw [t0]; exact Try.underlying3) (by rw [t1]; exact Try.underlying3)
theorem opRows : Opens Try.prog tRow.slice 63 := opRow.slice Try.underlying63 (by kernel_rfl)

end Go.Pch
