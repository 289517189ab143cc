/- Changes: what they read as; the struct type's fields; two changes compared. -/
import Derived.Test.YtipondhhchicjaaC1
import Derived.Test.YtipondhhchicjaaChgP
namespace Go.Pch
open Go.RowKit Go.Proofs
set_option maxRecDepth 100000

def tChange : Ty Change := Ty.flat 3 (by decide) (fun r => [.int .i64 r.1, .int .i64 r.2.1, .int .i64 r.2.2]) (fun r => i64ok r.1 ∧ i64ok r.2.1 ∧ i64ok r.2.2) (by intro; rfl) (by intro a u hu; simp at hu; rcases hu with rfl | rfl | rfl <;> rfl)
theorem tChange_mk (w : World) (S : Blk) (a b c : Int) (ha : i64ok a) (hb : i64ok b) (hc : i64ok c) : tChange.rd w S [.int .i64 a, .int .i64 b, .int .i64 c] (a, b, c) := ⟨rfl, ha, hb, hc⟩
theorem aChg : At Try.prog tChange 38 42 := At.mk' Try.underlying38 (z := .agg #[.int .i64 0, .int .i64 0, .int .i64 0]) (size := 3) (bytes := 24) (by kernel_rfl) rfl rfl (by decide)
theorem Sl.idxChg {w : World} {S : Blk} {P : Program} {T e : TypeId} {v : Value} {l : List Change} (h : Sl tChange w S v l) (hA : At P tChange T e) (n : Int) (i : Nat) (hn : n = (i : Int)) (hi : i < l.length) :
    ∃ b o, (∀ W, Sem.run P (Instr.indexAt T v (.int .i64 n)) W = .ok (.pointer (some ⟨b, o, none⟩)) W) ∧ S b ∧ b < w.heap.size ∧ i64ok l[i].1 ∧ i64ok l[i].2.1 ∧ i64ok l[i].2.2 ∧
      w.cell? ⟨b, o, none⟩ = some (.int .i64 l[i].1) ∧ w.cell? ⟨b, o + 1, none⟩ = some (.int .i64 l[i].2.1) ∧ w.cell? ⟨b, o + 2, none⟩ = some (.int .i64 l[i].2.2) := by
  obtain ⟨b, o, cs, h1, h2, h3, ⟨rfl, h5, h6, h8⟩, h7⟩ := h.idx hA n i hn hi
  exact ⟨b, o, h1, h2, h3, h5, h6, h8, by simpa using h7 0 _ rfl, h7 1 _ rfl, h7 2 _ rfl⟩
/-- An element that is known by name. -/
theorem Sl.idxChgAt {w : World} {S : Blk} {P : Program} {T e : TypeId} {v : Value} {l : List Change} (h : Sl tChange w S v l) (hA : At P tChange T e) (n : Int) (i : Nat) (x : Change) (hn : n = (i : Int)) (hx : l[i]? = some x) :
    ∃ b o, (∀ W, Sem.run P (Instr.indexAt T v (.int .i64 n)) W = .ok (.pointer (some ⟨b, o, none⟩)) W) ∧ S b ∧ b < w.heap.size ∧ i64ok x.1 ∧ i64ok x.2.1 ∧ i64ok x.2.2 ∧
      w.cell? ⟨b, o, none⟩ = some (.int .i64 x.1) ∧ w.cell? ⟨b, o + 1, none⟩ = some (.int .i64 x.2.1) ∧ w.cell? ⟨b, o + 2, none⟩ = some (.int .i64 x.2.2) := by
  obtain ⟨hi, rfl⟩ := List.getElem?_eq_some_iff.1 hx
  exact h.idxChg hA n i hn hi
theorem Sl.idxRowAt {w : World} {S : Blk} {P : Program} {T e : TypeId} {v : Value} {l : List Row} (h : Sl tRow w S v l) (hA : At P tRow T e) (n : Int) (i : Nat) (x : Row) (hn : n = (i : Int)) (hx : l[i]? = some x) :
    ∃ b o, (∀ W, Sem.run P (Instr.indexAt T v (.int .i64 n)) W = .ok (.pointer (some ⟨b, o, none⟩)) W) ∧ S b ∧ b < w.heap.size ∧ i64ok x.1 ∧ i64ok x.2 ∧
      w.cell? ⟨b, o, none⟩ = some (.int .i64 x.1) ∧ w.cell? ⟨b, o + 1, none⟩ = some (.int .i64 x.2) := by
  obtain ⟨hi, rfl⟩ := List.getElem?_eq_some_iff.1 hx
  exact h.idxRow hA n i hn hi

theorem chgGuard : Try.prog.eqGuardType Try.prog.depth 42 = false := by kernel_rfl
theorem chgHeld : Try.prog.stoodInHeld 42 = false := by kernel_rfl
theorem chgStruct : Try.prog.underlying 42 = some (.struct (Try.prog.fieldsOf 42)) := by kernel_rfl
theorem chgFields : (Try.prog.fieldsOf 42).toList.map (fun f => (f.type, f.offset, f.name)) = [(3, 0, "Key"), (3, 1, "Old"), (3, 2, "New")] := by kernel_rfl
theorem three_of_map {α β : Type} {f : α → β} {l : List α} {x y z : β} (h : l.map f = [x, y, z]) : ∃ a b c, l = [a, b, c] ∧ f a = x ∧ f b = y ∧ f c = z := by
  match l, h with
  | [a, b, c], h => simp at h; exact ⟨a, b, c, rfl, h.1, h.2.1, h.2.2⟩
theorem chgEqual (x y : Change) (W : World) : Sem.run Try.prog (Op.equalIn 10000 42 (.agg #[.int .i64 x.1, .int .i64 x.2.1, .int .i64 x.2.2]) (.agg #[.int .i64 y.1, .int .i64 y.2.1, .int .i64 y.2.2])) W = .ok (decide (x = y)) W := by
  obtain ⟨a, b, c⟩ := x
  obtain ⟨a', b', c'⟩ := y
  obtain ⟨f, g, k, h1, h2, h3, h4⟩ := three_of_map chgFields
  simp only [Prod.mk.injEq] at h2 h3 h4
  obtain ⟨h21, h22, h23⟩ := h2
  obtain ⟨h31, h32, h33⟩ := h3
  obtain ⟨h41, h42, h43⟩ := h4
  rw [show (10000 : Nat) = 9999 + 1 from rfl, run_equalIn_struct W 9999 _ _ _ chgStruct chgHeld, h1]
  have e := fun x y W => run_equalIn_int (P := Try.prog) W 9998 3 .i64 .i64 x y Try.underlying3
  simp only [Nat.reduceAdd] at e
  by_cases ha : a = a' <;> by_cases hb : b = b' <;> by_cases hc : c = c' <;> simp [Op.eqFields, h21, h22, h23, h31, h32, h33, h41, h42, h43, part, e, ha, hb, hc]

end Go.Pch
