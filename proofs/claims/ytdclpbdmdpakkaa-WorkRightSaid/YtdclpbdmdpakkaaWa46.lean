/- What an act reads as, from data. -/
import Derived.Test.YtdclpbdmdpakkaaWa42
import Derived.Test.YtdclpbdmdpakkaaWa44
import Derived.ChangeArms
section
namespace Go.Pch
open Go.RowKit Go.Proofs Go.ChangeShapes Go.WideShapes

theorem four_of_map {α β : Type} {f : α → β} {l : List α} {x y z u : β} (h : l.map f = [x, y, z, u]) : ∃ a b c d, l = [a, b, c, d] ∧ f a = x ∧ f b = y ∧ f c = z ∧ f d = u := by
  match l, h with
  | [a, b, c, d], h => simp at h; exact ⟨a, b, c, d, rfl, h.1, h.2.1, h.2.2.1, h.2.2.2⟩
theorem agg_of_four {v a b c d : Value} (h : v.cells.toList = [a, b, c, d]) : v = .agg #[a, b, c, d] := by
  cases v with
  | agg cs => simp only [Value.cells] at h; rw [← h]
  | _ => simp [Value.cells] at h
theorem actFields : (Try.prog.fieldsOf 46).toList.map (fun f => (f.type, f.offset, f.name)) = [(3, 0, "Kind"), (9, 1, "One"), (9, 2, "Two"), (26, 3, "Changes")] := by kernel_rfl
theorem actStruct : Try.prog.underlying 46 = some (.struct (Try.prog.fieldsOf 46)) := by kernel_rfl
/-- An act, in cells. -/
def ActCells (w : World) (S : Blk) (cs : List Value) (x : Act) : Prop := ∃ vd, cs = [.int .i64 x.1, .string x.2.1, .string x.2.2.1, vd] ∧ i64ok x.1 ∧ x.2.1.size ≤ maxLen ∧ x.2.2.1.size ≤ maxLen ∧ Sl tChange w S vd x.2.2.2
theorem openFour {P : Program} {t : TypeId} {f0 f1 f2 f3 : Field} (ht : P.underlying t = some (.struct #[f0, f1, f2, f3])) (hc : P.cellsOf t = 4) (o0 : f0.offset = 0) (o1 : f1.offset = 1) (o2 : f2.offset = 2) (o3 : f3.offset = 3) (c0 : P.cellsOf f0.type = 1) (c1 : P.cellsOf f1.type = 1) (c2 : P.cellsOf f2.type = 1) (c3 : P.cellsOf f3.type = 1)
    (t0 : P.underlying f0.type = some (.int .i64)) (t1 : P.underlying f1.type = some .string) (t2 : P.underlying f2.type = some .string) (t3 : Opens P tChange.slice f3.type)
    (H : Type) (enc : TypeId × Value → H) (w : World) (base : Nat) (spare : Nat → Bool) (held : Bool) (fuel : Nat) (cs : List Value) (x : DataW H × List MemPlace)
    (h : DataW.trod enc P w base spare held fuel t cs = some x) : ∃ a, ActCells w (fun _ => True) cs a := by
  obtain ⟨xs, n, _, rfl, hl, hlen, hf⟩ := DataW.trod_struct ht h
  match xs, hlen with
  | [y0, y1, y2, y3], _ =>
    have g0 := hf 0 f0 rfl
    have g1 := hf 1 f1 rfl
    have g2 := hf 2 f2 rfl
    have g3 := hf 3 f3 rfl
    rw [hc] at hl
    match cs, hl with
    | [a, b, c, d], _ =>
      simp only [o0, o1, o2, o3, c0, c1, c2, c3, List.drop_zero, List.take_succ_cons, List.take_zero, List.drop_succ_cons] at g0 g1 g2 g3
      obtain ⟨k, q0, _, w0⟩ := DataW.trod_int t0 g0
      obtain ⟨s, q1, _, w1⟩ := DataW.trod_string t1 g1
      obtain ⟨u, q2, _, w2⟩ := DataW.trod_string t2 g2
      obtain ⟨l, hd⟩ := t3 H enc w base spare held _ _ _ g3
      simp at q0 q1 q2
      subst q0 q1 q2
      obtain ⟨a3, n3, c3, hv, r3⟩ := hd
      simp at hv
      subst hv
      exact ⟨(k, s, u, l), _, rfl, i64ok_of_wf w0, w1, w2, a3, n3, c3, rfl, r3⟩
theorem opAct (H : Type) (enc : TypeId × Value → H) (w : World) (base : Nat) (spare : Nat → Bool) (held : Bool) (fuel : Nat) (cs : List Value) (x : DataW H × List MemPlace)
    (h : DataW.trod enc Try.prog w base spare held fuel 46 cs = some x) : ∃ a, ActCells w (fun _ => True) cs a := by
  obtain ⟨f0, f1, f2, f3, e0, h0, h1, h2, h3⟩ := four_of_map actFields
  simp only [Prod.mk.injEq] at h0 h1 h2 h3
  have e : Try.prog.fieldsOf 46 = #[f0, f1, f2, f3] := by rw [← Array.toList_inj, e0]
  exact openFour (by rw [actStruct, e]) (by kernel_rfl) h0.2.1 h1.2.1 h2.2.1 h3.2.1 (by rw [h0.1]; kernel_rfl) (by rw [h1.1]; kernel_rfl) (by rw [h2.1]; kernel_rfl) (by rw [h3.1]; kernel_rfl)
    (by rw [h0.1]; exact Try.underlying3) (by rw [h1.1]; exact Try.underlying9) (by rw [h2.1]; exact Try.underlying9) (by rw [h3.1]; exact opChanges) H enc w base spare held fuel cs x h
theorem act_of_open {w : World} {S : Blk} {v : Value} {x : Act} (h : ActCells w S v.cells.toList x) : AtAct w S v x := by
  obtain ⟨vd, hv, _, _, _, hd⟩ := h
  exact ⟨vd, agg_of_four hv, hd⟩

end Go.Pch
end
