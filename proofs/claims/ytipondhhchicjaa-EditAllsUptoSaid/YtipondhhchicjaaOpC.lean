/- Changes, read from data. -/
import Derived.Test.YtipondhhchicjaaOp
import Derived.Test.YtipondhhchicjaaChg
namespace Go.Pch
open Go.RowKit Go.Proofs Go.ChangeShapes Go.WideShapes

theorem Opens.triple {P : Program} {t : TypeId} {f0 f1 f2 : Field} (ht : P.underlying t = some (.struct #[f0, f1, f2])) (hc : P.cellsOf t = 3) (o0 : f0.offset = 0) (o1 : f1.offset = 1) (o2 : f2.offset = 2) (c0 : P.cellsOf f0.type = 1) (c1 : P.cellsOf f1.type = 1) (c2 : P.cellsOf f2.type = 1)
    (t0 : P.underlying f0.type = some (.int .i64)) (t1 : P.underlying f1.type = some (.int .i64)) (t2 : P.underlying f2.type = some (.int .i64)) : Opens P tChange t := by
  intro H enc w base spare held fuel cs x h
  obtain ⟨xs, n, _, rfl, hl, hlen, hf⟩ := DataW.trod_struct ht h
  match xs, hlen with
  | [y0, y1, y2], _ =>
    have h0 := hf 0 f0 rfl
    have h1 := hf 1 f1 rfl
    have h2 := hf 2 f2 rfl
    rw [hc] at hl
    match cs, hl with
    | [a, b, c], _ =>
      simp only [o0, o1, o2, c0, c1, c2, List.drop_zero, List.take_succ_cons, List.take_zero, List.drop_succ_cons] at h0 h1 h2
      obtain ⟨p, e0, _, w0⟩ := DataW.trod_int t0 h0
      obtain ⟨q, e1, _, w1⟩ := DataW.trod_int t1 h1
      obtain ⟨r, e2, _, w2⟩ := DataW.trod_int t2 h2
      simp at e0 e1 e2
      subst e0 e1 e2
      exact ⟨(p, q, r), rfl, i64ok_of_wf w0, i64ok_of_wf w1, i64ok_of_wf w2⟩
theorem fieldsChg : ∃ f0 f1 f2 : Field, Try.prog.underlying 42 = some (.struct #[f0, f1, f2]) ∧ f0.offset = 0 ∧ f1.offset = 1 ∧ f2.offset = 2 ∧ f0.type = 3 ∧ f1.type = 3 ∧ f2.type = 3 := by
  obtain ⟨f, g, k, h1, h2, h3, h4⟩ := three_of_map chgFields
  simp only [Prod.mk.injEq] at h2 h3 h4
  have e : Try.prog.fieldsOf 42 = #[f, g, k] := by rw [← Array.toList_inj, h1]
  exact ⟨f, g, k, by rw [chgStruct, e], h2.2.1, h3.2.1, h4.2.1, h2.1, h3.1, h4.1⟩
theorem opChange : Opens Try.prog tChange 42 := by
  obtain ⟨f0, f1, f2, h, o0, o1, o2, t0, t1, t2⟩ := fieldsChg
  exact Opens.triple h (by kernel_rfl) o0 o1 o2 (by rw [t0]; kernel_rfl) (by rw [t1]; kernel_rfl) (by rw [t2]; kernel_rfl) (by rw [t0]; exact Try.underlying3) (by rw [t1]; exact Try.underlying3) (by rw [t2]; exact Try.underlying3)
theorem opChanges : Opens Try.prog tChange.slice 38 := opChange.slice Try.underlying38 (by kernel_rfl)

end Go.Pch
