/- The struct type Row: its fields; two rows compared. -/
import Derived.Test.YtklgejafblocjaaBase
import Derived.Test.YtklgejafblocjaaChecked
namespace Go.Pch
open Go.RowKit Go.Proofs

theorem rowGuard : Try.prog.eqGuardType Try.prog.depth 74 = false := by kernel_rfl
theorem rowHeld : Try.prog.stoodInHeld 74 = false := by kernel_rfl
theorem rowStruct : Try.prog.underlying 74 = some (.struct (Try.prog.fieldsOf 74)) := by kernel_rfl
theorem rowFields : (Try.prog.fieldsOf 74).toList.map (fun f => (f.type, f.offset, f.name)) = [(3, 0, "Key"), (3, 1, "Val")] := by kernel_rfl
theorem two_of_map {α β : Type} {f : α → β} {l : List α} {x y : β} (h : l.map f = [x, y]) : ∃ a b, l = [a, b] ∧ f a = x ∧ f b = y := by
  match l, h with
  | [a, b], h => simp at h; exact ⟨a, b, rfl, h.1, h.2⟩
theorem rowEqual (a b c d : Int) (W : World) : Sem.run Try.prog (Op.equalIn 10000 74 (.agg #[.int .i64 a, .int .i64 b]) (.agg #[.int .i64 c, .int .i64 d])) W = .ok (decide ((a, b) = (c, d))) W := by
  obtain ⟨f, g, h1, h2, h3⟩ := two_of_map rowFields
  simp only [Prod.mk.injEq] at h2 h3
  obtain ⟨h21, h22, h23⟩ := h2
  obtain ⟨h31, h32, h33⟩ := h3
  rw [show (10000 : Nat) = 9999 + 1 from rfl, run_equalIn_struct W 9999 _ _ _ rowStruct rowHeld, h1]
  have e := fun x y W => run_equalIn_int (P := Try.prog) W 9998 3 .i64 .i64 x y Try.underlying3
  simp only [Nat.reduceAdd] at e
  by_cases ha : a = c <;> by_cases hb : b = d <;> simp [Op.eqFields, h21, h22, h23, h31, h32, h33, part, e, ha, hb]

end Go.Pch
